/-
  Objects some of whose calls hold room: the effects in their order; plain laws. Written by mk_slog.py. Package stack under whatever schedule, state by state: plain. Package stack under whatever schedule: what every run keeps; plain. Package stack under whatever schedule: each step; plain. Package stack under whatever schedule: its runs could be one behind the other; plain. (Merged by merge.py.)
-/
import Derived.Test.YtbcjgnigdddlkaaDoorQPl
import Derived.Test.YtbcjgnigdddlkaaDoorSAl2
namespace Go.Proofs.YtbcjgnigdddlkaaDoor
set_option linter.unusedVariables false

section
open Go.RowKit
/-- what a step does to the object; F: why it may turn the call away -/
def OEffS (q : Bool) (F : Prop) (put : Bool) (v : Int) (ph : Ph) (l : List Int) (ph' : Ph) (l' : List Int) : Prop :=
  (ph' = ph ∧ l' = l) ∨ (ph = .no ∧ put = true ∧ ph' = .done v ∧ l' = l ++ [v]) ∨ (ph = .no ∧ put = false ∧ ph' = .done (otell q l false 0).1 ∧ l' = (otell q l false 0).2) ∨ (ph = .no ∧ put = true ∧ ph' = .ref ∧ l' = l ∧ F)
theorem OEffS.imp {q : Bool} {F F' : Prop} {put : Bool} {v : Int} {ph ph' : Ph} {l l' : List Int} (h : OEffS q F put v ph l ph' l') (hF : ph = .no → F → F') : OEffS q F' put v ph l ph' l' := by
  rcases h with h | h | h | ⟨h1, h2, h3, h4, h5⟩
  · exact .inl h
  · exact .inr (.inl h)
  · exact .inr (.inr (.inl h))
  · exact .inr (.inr (.inr ⟨h1, h2, h3, h4, hF h1 h5⟩))
/-- so much is there or held: by those that put and have not yet, and by those that took and have not given back -/
def RefS (N : Nat) (m : Mach) (P : List Int → VCall → Ph → Th → Prop) (n : Nat) (ths : List PT) (ws : List Int) (l : List Int) : Prop :=
  ∃ A B : List Nat, A.Nodup ∧ B.Nodup ∧ N ≤ l.length + A.length + B.length ∧
    (∀ a ∈ A, a ≠ n ∧ ∃ nx t c, ths[a]? = some ⟨nx + 1, some (c.code, t)⟩ ∧ callOf m a nx = some c ∧ isPut c = true ∧ ∀ ph, P ws c ph t → ph = .no) ∧
    (∀ b ∈ B, b ≠ n ∧ ∃ nx t c, ths[b]? = some ⟨nx + 1, some (c.code, t)⟩ ∧ callOf m b nx = some c ∧ isPut c = false ∧ ∀ ph, P ws c ph t → ∃ v, ph = .done v ∧ v ≠ -1)
structure ObjMS (q : Bool) (N : Nat) (m : Mach) (B : Nat) (P : List Int → VCall → Ph → Th → Prop) (G : Nat → List PT → List Int → List Int → Prop) : Prop where
  call : ∀ (n nx : Nat) (c : VCall), callOf m n nx = some c → OkC c
  up : ∀ i ths ws l, G i ths ws l → G (i + 1) ths ws l
  beg : ∀ i ths ws l n nx c, G i ths ws l → ths[n]? = some ⟨nx, none⟩ → callOf m n nx = some c → P ws c .no (vbegin (m.codes.getD c.code []).length c.args) ∧ G i (ths.set n ⟨nx + 1, some (c.code, vbegin (m.codes.getD c.code []).length c.args)⟩) ws l
  act : ∀ i ths ws l n nx t c ph, i < B → G i ths ws l → ths[n]? = some ⟨nx + 1, some (c.code, t)⟩ → callOf m n nx = some c → P ws c ph t →
    (∀ n' nx' t' c' ph'', n' ≠ n → ths[n']? = some ⟨nx' + 1, some (c'.code, t')⟩ → callOf m n' nx' = some c' → P ws c' ph'' t' → P (vstep (m.codes.getD c.code []) t ws).2 c' ph'' t') ∧
    ∃ ph' l', (vstep (m.codes.getD c.code []) t ws).1.err = 0 ∧
      (((vstep (m.codes.getD c.code []) t ws).1.over = false ∧ OEffS q (RefS N m P n ths ws l) (isPut c) (argV c) ph l ph' l' ∧ P (vstep (m.codes.getD c.code []) t ws).2 c ph' (vstep (m.codes.getD c.code []) t ws).1 ∧ G (i + 1) (ths.set n ⟨nx + 1, some (c.code, (vstep (m.codes.getD c.code []) t ws).1)⟩) (vstep (m.codes.getD c.code []) t ws).2 l') ∨
       ((vstep (m.codes.getD c.code []) t ws).1.over = true ∧ ph' = ph ∧ l' = l ∧ OTold (isPut c) ph' (vstep (m.codes.getD c.code []) t ws).1.told ∧ G (i + 1) (ths.set n ⟨nx + 1, none⟩) (vstep (m.codes.getD c.code []) t ws).2 l'))
theorem nodup_sub_len {α : Type} [DecidableEq α] : ∀ (l1 l2 : List α), l1.Nodup → (∀ x ∈ l1, x ∈ l2) → l1.length ≤ l2.length
  | [], _, _, _ => Nat.zero_le _
  | x :: l1, l2, hn, hs => by
    rw [List.nodup_cons] at hn
    have hx := hs x List.mem_cons_self
    have ih := nodup_sub_len l1 (l2.erase x) hn.2 fun y hy => (List.mem_erase_of_ne (fun e => hn.1 (by rw [← e]; exact hy))).2 (hs y (List.mem_cons_of_mem _ hy))
    have h1 := List.length_erase_of_mem hx
    have h2 : 0 < l2.length := List.length_pos_of_mem hx
    rw [List.length_cons]; omega
theorem choose_on {Q : Nat → Nat → Prop} {A : List Nat} (h : ∀ a ∈ A, ∃ k, Q a k) : ∃ f : Nat → Nat, ∀ a ∈ A, Q a (f a) :=
  ⟨fun a => if h1 : a ∈ A then Classical.choose (h a h1) else 0, fun a ha => by simp only [dif_pos ha]; exact Classical.choose_spec (h a ha)⟩
theorem nodup_map_on {f : Nat → Nat} : ∀ {A : List Nat}, A.Nodup → (∀ a ∈ A, ∀ b ∈ A, f a = f b → a = b) → (A.map f).Nodup
  | [], _, _ => List.nodup_nil
  | x :: A, hn, hi => by
    rw [List.nodup_cons] at hn
    rw [List.map_cons, List.nodup_cons]
    refine ⟨fun hm => ?_, nodup_map_on hn.2 fun a ha b hb => hi a (List.mem_cons_of_mem _ ha) b (List.mem_cons_of_mem _ hb)⟩
    obtain ⟨y, hy, e⟩ := List.mem_map.1 hm
    have := hi x List.mem_cons_self y (List.mem_cons_of_mem _ hy) e.symm
    exact hn.1 (by rw [this]; exact hy)
theorem LI.fullS {q : Bool} {N : Nat} {m : Mach} {P : List Int → VCall → Ph → Th → Prop} {i : Nat} {s : PS} {H : List Lg} {l : List Int} (h : LI q N m (P s.words) i s.ths (doings s.evs) H l) {j : Nat} (hD : DI j s) {n k0 : Nat} {d0 : Dg} (hk0 : (doings s.evs)[k0]? = some d0) (ht0 : d0.t = n) (hno : ∀ x ∈ H, x.k ≠ k0) (hbi : ∀ (k : Nat) (d : Dg), (doings s.evs)[k]? = some d → d.b ≤ i) (R : RefS N m P n s.ths s.words l) : Full N m (doings s.evs) k0 d0.b (i + 1) := by
  obtain ⟨A, B, nA, nB, hlen, hA, hB⟩ := R
  have hv : ∀ x ∈ H, x.put = true → x.v ≠ -1 := fun x hx hp => by
    obtain ⟨d, c, h1, h2, h3, h4, _⟩ := h.ent x hx
    obtain ⟨c', h5, h6⟩ := h.call x.k d h1
    rw [h2] at h5; injection h5 with h5; subst h5
    rw [h4 hp]; exact okc_arg h6
  have hseq := (h.seq.len (by simp) hv).1
  rw [List.length_nil, Nat.zero_add] at hseq
  have hA' : ∀ a ∈ A, ∃ k, ∃ d, (doings s.evs)[k]? = some d ∧ d.t = a ∧ d.e = none ∧ putD m d = true ∧ ∀ x ∈ H, x.k ≠ k := by
    intro a ha
    obtain ⟨hne, nx, t, c, h1, h2, h3, h4⟩ := hA a ha
    obtain ⟨k, d, g1, g2, g3, g4, _⟩ := hD.cur h1 rfl
    have g3 : d.c = nx := g3
    obtain ⟨_, c', ph, b1, b2, b3, b4⟩ := h.th a (nx + 1) c.code t h1
    rw [Nat.add_sub_cancel] at b1 b4
    rw [h2] at b1; injection b1 with b1; subst b1
    have hp := h4 ph b3
    subst hp
    exact ⟨k, d, g1, g2, g4, by unfold putD; rw [g2, g3, h2]; exact h3, b4 k d g1 g2 g3⟩
  have hB' : ∀ b ∈ B, ∃ k, ∃ d, (doings s.evs)[k]? = some d ∧ d.t = b ∧ d.e = none ∧ ∃ x ∈ H, x.k = k ∧ x.put = false ∧ x.v ≠ -1 := by
    intro a ha
    obtain ⟨hne, nx, t, c, h1, h2, h3, h4⟩ := hB a ha
    obtain ⟨k, d, g1, g2, g3, g4, _⟩ := hD.cur h1 rfl
    have g3 : d.c = nx := g3
    obtain ⟨_, c', ph, b1, b2, b3, b4⟩ := h.th a (nx + 1) c.code t h1
    rw [Nat.add_sub_cancel] at b1 b4
    rw [h2] at b1; injection b1 with b1; subst b1
    obtain ⟨v, hp, hv1⟩ := h4 ph b3
    subst hp
    obtain ⟨x, hx, e1, e2⟩ := b4 k d g1 g2 g3
    refine ⟨k, d, g1, g2, g4, x, hx, e1, ?_, by rw [e2]; exact hv1⟩
    obtain ⟨d', c', f1, f2, f3, _⟩ := h.ent x hx
    rw [e1, g1] at f1; injection f1 with f1; subst f1
    rw [g2, g3, h2] at f2; injection f2 with f2; subst f2
    rw [f3]; exact h3
  obtain ⟨f, hf⟩ := choose_on hA'
  obtain ⟨g, hg⟩ := choose_on hB'
  have nAf : (A.map f).Nodup := nodup_map_on nA fun a ha b hb e => by
    obtain ⟨d, h1, h2, _⟩ := hf a ha
    obtain ⟨d', h3, h4, _⟩ := hf b hb
    rw [e, h3] at h1; injection h1 with h1; rw [← h2, ← h4, h1]
  have nBg : (B.map g).Nodup := nodup_map_on nB fun a ha b hb e => by
    obtain ⟨d, h1, h2, _⟩ := hg a ha
    obtain ⟨d', h3, h4, _⟩ := hg b hb
    rw [e, h3] at h1; injection h1 with h1; rw [← h2, ← h4, h1]
  have a1 : (H.filter fun x => x.put).length + A.length ≤ cntI (ptF m k0 (i + 1)) 0 (doings s.evs) := by
    have eA : (A.map f).length = A.length := List.length_map _
    rw [← List.length_map (f := Lg.k), ← eA, ← List.length_append]
    refine nodup_count _ _ _ _ rfl ?_ fun j hj => ?_
    · rw [List.nodup_append]
      refine ⟨nodup_sub h.nd _, nAf, fun x hx y hy e => ?_⟩
      obtain ⟨z, hz, rfl⟩ := List.mem_map.1 hx
      obtain ⟨a, ha, rfl⟩ := List.mem_map.1 hy
      obtain ⟨d, _, _, _, _, h5⟩ := hf a ha
      exact h5 z (List.mem_filter.1 hz).1 e
    · rcases List.mem_append.1 hj with hj | hj
      · obtain ⟨x, hx, rfl⟩ := List.mem_map.1 hj
        obtain ⟨hx1, hx2⟩ := List.mem_filter.1 hx
        obtain ⟨d, c, h1, h2, h3, h4, h5, _⟩ := h.ent x hx1
        refine ⟨d, h1, ?_⟩
        unfold ptF putD
        rw [h2]
        simp only [Bool.and_eq_true, decide_eq_true_eq]
        exact ⟨⟨hno x hx1, by rw [← h3]; exact hx2⟩, by omega⟩
      · obtain ⟨a, ha, rfl⟩ := List.mem_map.1 hj
        obtain ⟨d, h1, h2, h3, h4, _⟩ := hf a ha
        have hne : d.t ≠ n := by rw [h2]; exact (hA a ha).1
        refine ⟨d, h1, ?_⟩
        unfold ptF
        rw [h4]
        simp only [Bool.and_eq_true, decide_eq_true_eq]
        refine ⟨⟨fun e => ?_, trivial⟩, Nat.lt_succ_of_le (hbi _ d h1)⟩
        rw [e, hk0] at h1; injection h1 with h1
        exact hne (by rw [← h1]; exact ht0)
  obtain ⟨LT, hLT⟩ : ∃ LT, ((H.filter fun x => !x.put && x.v != -1).map Lg.k).filter (fun j => decide (j ∉ B.map g)) = LT := ⟨_, rfl⟩
  have hTn : ((H.filter fun x => !x.put && x.v != -1).map Lg.k).Nodup := nodup_sub h.nd _
  have a3 : LT.length + B.length ≤ (H.filter fun x => !x.put && x.v != -1).length := by
    have eB : (B.map g).length = B.length := List.length_map _
    rw [← List.length_map (f := Lg.k), ← eB, ← List.length_append]
    refine nodup_sub_len _ _ ?_ fun x hx => ?_
    · rw [List.nodup_append]
      refine ⟨by rw [← hLT]; exact hTn.sublist List.filter_sublist, nBg, fun x hx y hy e => ?_⟩
      rw [← hLT] at hx
      have := (List.mem_filter.1 hx).2
      rw [decide_eq_true_eq] at this
      exact this (by rw [e]; exact hy)
    · rcases List.mem_append.1 hx with hx | hx
      · rw [← hLT] at hx; exact (List.mem_filter.1 hx).1
      · obtain ⟨b, hb, rfl⟩ := List.mem_map.1 hx
        obtain ⟨d, h1, h2, h3, x, h4, h5, h6, h7⟩ := hg b hb
        exact List.mem_map.2 ⟨x, List.mem_filter.2 ⟨h4, by simp [h6, h7]⟩, h5⟩
  have a2 : cntI (fun _ => tkF m d0.b) 0 (doings s.evs) ≤ LT.length := by
    refine cntI_list _ _ _ _ rfl fun j d hj hf2 => ?_
    unfold tkF at hf2
    simp only [Bool.and_eq_true, Bool.not_eq_true'] at hf2
    obtain ⟨⟨f1, f2⟩, f3⟩ := hf2
    obtain ⟨e, he⟩ : ∃ e, d.e = some e := by
      cases hx : d.e with
      | none => rw [hx] at f2; cases f2
      | some e => exact ⟨e, rfl⟩
    rw [← hLT]
    refine List.mem_filter.2 ⟨?_, ?_⟩
    · rcases h.cov j d e hj he with ⟨x, hx, rfl⟩ | ⟨h1, _⟩
      · refine List.mem_map.2 ⟨x, List.mem_filter.2 ⟨hx, ?_⟩, rfl⟩
        obtain ⟨d', c, h1, h2, h3, h4, h5, h6⟩ := h.ent x hx
        rw [hj] at h1; injection h1 with h1; subst h1
        have hp : x.put = false := by unfold putD at f1; rw [h2] at f1; rw [h3]; exact f1
        have ht := h6 e he
        rw [hp] at ht ⊢
        rw [ht] at f3
        simpa using f3
      · rw [h1] at f1; cases f1
    · rw [decide_eq_true_eq]
      intro hm
      obtain ⟨b, hb, rfl⟩ := List.mem_map.1 hm
      obtain ⟨d', h1, h2, h3, _⟩ := hg b hb
      rw [hj] at h1; injection h1 with h1; subst h1
      rw [he] at h3; cases h3
  unfold Full
  omega
section
variable {q : Bool} {N : Nat} {m : Mach} {P : VCall → Ph → Th → Prop} {i : Nat} {ths : List PT} {ds : List Dg} {H : List Lg} {l : List Int}
/-- a step of a thread within its call -/
theorem LI.ownS {P' : VCall → Ph → Th → Prop} (h : LI q N m P i ths ds H l) {n k0 : Nat} {d0 : Dg} {p0 : PT} (hk0 : ds[k0]? = some d0) (hn : ths[n]? = some p0) (ht0 : d0.t = n) (he0 : d0.e = none)
    (hoP : ∀ (n' nx : Nat) (t : Th) (c : VCall) (ph : Ph), n' ≠ n → ths[n']? = some ⟨nx + 1, some (c.code, t)⟩ → callOf m n' nx = some c → P c ph t → P' c ph t)
    (huniq : ∀ (k : Nat) (d : Dg), ds[k]? = some d → d.t = n → d.c = d0.c → k = k0) (hb : ∀ (k : Nat) (d : Dg), ds[k]? = some d → d.b ≤ i)
    (p' : PT) (d1 : Dg) (hd : d1.b = d0.b ∧ d1.t = d0.t ∧ d1.c = d0.c) {c : VCall} (hc : callOf m n d0.c = some c) {ph ph' : Ph} {l' : List Int} (hph : PhOk N m ds H i k0 d0 ph)
    (heff : OEffS q (Full N m ds k0 d0.b (i + 1)) (isPut c) (argV c) ph l ph' l')
    (hp : ∀ ci t, p'.cur = some (ci, t) → d1 = d0 ∧ p'.next = d0.c + 1 ∧ ci = c.code ∧ P' c ph' t)
    (he1 : ∀ e, d1.e = some e → e = i ∧ ph' = ph ∧ l' = l ∧ OTold (isPut c) ph' d1.told) :
    ∃ H', LI q N m P' (i + 1) (ths.set n p') (ds.set k0 d1) H' l' := by
  have hcall : callOf m d1.t d1.c = some c := by rw [hd.2.1, hd.2.2, ht0]; exact hc
  have hcall0 : callOf m d0.t d0.c = some c := by rw [ht0]; exact hc
  have hput1 : putD m d1 = isPut c := by unfold putD; rw [hcall]
  have hfull : ∀ {k b j : Nat}, b ≤ i → Full N m ds k b j → Full N m (ds.set k0 d1) k b j := fun hbi hf => hf.set (i := i) hk0 he0 hd (fun e he => by rw [(he1 e he).1]; exact hbi)
  have hget : ∀ {k : Nat} {d : Dg}, (ds.set k0 d1)[k]? = some d → (k = k0 ∧ d = d1) ∨ (k ≠ k0 ∧ ds[k]? = some d) := fun h => get_set h
  have hcallD : ∀ (k : Nat) (d : Dg), (ds.set k0 d1)[k]? = some d → ∃ c, callOf m d.t d.c = some c ∧ OkC c := fun k d hk => by
    rcases hget hk with ⟨_, rfl⟩ | ⟨_, hk⟩
    · rw [hd.2.1, hd.2.2]; exact h.call k0 d0 hk0
    · exact h.call k d hk
  -- the other threads
  have hoth : ∀ {H' : List Lg}, (∀ x, x ∈ H → x ∈ H') → (∀ x, x ∈ H' → x ∈ H ∨ x.k = k0) → ∀ (n' nx ci : Nat) (t : Th), n' ≠ n → ths[n']? = some ⟨nx, some (ci, t)⟩ → 1 ≤ nx ∧ ∃ c ph, callOf m n' (nx - 1) = some c ∧ ci = c.code ∧ P' c ph t ∧ ∀ (k : Nat) (d : Dg), (ds.set k0 d1)[k]? = some d → d.t = n' → d.c = nx - 1 → PhOk N m (ds.set k0 d1) H' (i + 1) k d ph := by
    intro H' hs hs2 n' nx ci t hne ht
    obtain ⟨a1, c', ph2, a2, a3, a4, a5⟩ := h.th n' nx ci t ht
    have a4' : P' c' ph2 t := hoP n' (nx - 1) t c' ph2 hne (by rw [show nx - 1 + 1 = nx by omega, ← a3]; exact ht) a2 a4
    refine ⟨a1, c', ph2, a2, a3, a4', fun k d hk hdt hdc => ?_⟩
    rcases hget hk with ⟨e1, e2⟩ | ⟨hkk, hk⟩
    · subst e2; exact absurd (by rw [← hdt, hd.2.1, ht0]) hne
    · have := a5 k d hk hdt hdc
      have hno : (∀ x ∈ H, x.k ≠ k) → ∀ x ∈ H', x.k ≠ k := fun hh x hx => by
        rcases hs2 x hx with h1 | h1
        · exact hh x h1
        · rw [h1]; exact fun e => hkk e.symm
      cases ph2 with
      | no => exact hno this
      | done v => obtain ⟨x, b1, b2⟩ := this; exact ⟨x, hs x b1, b2⟩
      | ref => exact ⟨hno this.1, hfull (hb k d hk) (this.2.mono (Nat.le_succ i))⟩
  have hown : ∀ {H' : List Lg}, (d1 = d0 → PhOk N m ds H' (i + 1) k0 d0 ph') → (∀ x, x ∈ H → x ∈ H') → (∀ x, x ∈ H' → x ∈ H ∨ x.k = k0) → ∀ (n' nx ci : Nat) (t : Th), (ths.set n p')[n']? = some ⟨nx, some (ci, t)⟩ → 1 ≤ nx ∧ ∃ c ph, callOf m n' (nx - 1) = some c ∧ ci = c.code ∧ P' c ph t ∧ ∀ (k : Nat) (d : Dg), (ds.set k0 d1)[k]? = some d → d.t = n' → d.c = nx - 1 → PhOk N m (ds.set k0 d1) H' (i + 1) k d ph := by
    intro H' h0 hs hs2 n' nx ci t hn'
    rcases get_set hn' with ⟨e1, e2⟩ | ⟨e1, e2⟩
    · subst e1
      obtain ⟨b1, b2, b3, b4⟩ := hp ci t (by rw [← e2])
      rw [← e2] at b2
      have b2 : nx = d0.c + 1 := b2
      refine ⟨by omega, c, ph', by rw [b2, Nat.add_sub_cancel]; exact hc, b3, b4, fun k d hk hdt hdc => ?_⟩
      rw [b2, Nat.add_sub_cancel] at hdc
      have hst : ds.set k0 d1 = ds := by rw [b1]; exact setSelf hk0
      rw [hst] at hk ⊢
      have hkk := huniq k d hk hdt hdc
      subst hkk
      rw [hk0] at hk; injection hk with hk; subst hk
      exact h0 b1
    · exact hoth hs hs2 n' nx ci t e1 e2
  -- an effect that is told of already
  have hsame : l' = l → ph' = ph ∨ (ph = .no ∧ ph' = .ref ∧ isPut c = true ∧ Full N m ds k0 d0.b (i + 1)) → LI q N m P' (i + 1) (ths.set n p') (ds.set k0 d1) H l' := by
    intro hl hpp
    subst hl
    refine ⟨h.seq, h.nd, fun x hx => ?_, hcallD, fun k d e hk he => ?_, h.rt.imp_of_mem fun {x y} hx hy hxy dx dy e h1 h2 h3 => ?_, hown ?_ (fun x h => h) (fun x h => .inl h)⟩
    · obtain ⟨d, c', b1, b2, b3, b4, b5, b6⟩ := h.ent x hx
      by_cases e : x.k = k0
      · have b1' := b1
        rw [e, hk0] at b1'; injection b1' with b1'; subst b1'
        rw [hcall0] at b2; injection b2 with b2; subst b2
        refine ⟨d1, c, by rw [e]; exact set_at hk0 _, hcall, b3, b4, by rw [hd.1]; omega, fun e2 he2 => ?_⟩
        obtain ⟨_, c1, _, c2⟩ := he1 e2 he2
        subst c1
        rcases c2 with ⟨v, c2, c3⟩ | ⟨_, c2, c3⟩
        · subst c2
          obtain ⟨y, hy, hy1, hy2⟩ := hph
          have := ent_uniq h.nd hx hy (by rw [e, hy1])
          subst this
          rw [c3, b3, hy2]
        · subst c2
          exact absurd e (hph.1 x hx)
      · exact ⟨d, c', set_get b1 (fun e' => e e'.symm) _, b2, b3, b4, by omega, b6⟩
    · rcases hget hk with ⟨e1, e2⟩ | ⟨hkk, hk⟩
      · subst e1 e2
        obtain ⟨c0, c1, _, c2⟩ := he1 e he
        subst c1
        rcases c2 with ⟨v, c2, c3⟩ | ⟨c4, c2, c3⟩
        · subst c2
          obtain ⟨y, hy, hy1, hy2⟩ := hph
          exact .inl ⟨y, hy, hy1⟩
        · subst c2
          refine .inr ⟨by rw [hput1]; exact c4, c3, ?_⟩
          have := hph.2
          rw [hd.1, c0]
          exact hfull (hb k d0 hk0) this
      · rcases h.cov k d e hk he with h1 | ⟨h1, h2, h3⟩
        · exact .inl h1
        · exact .inr ⟨h1, h2, hfull (hb k d hk) h3⟩
    · rcases hget h1 with ⟨_, e1⟩ | ⟨_, h1⟩
      · rcases hget h2 with ⟨_, e2⟩ | ⟨_, h2⟩
        · rw [e2] at h3
          rw [e1, (he1 e h3).1, hd.1]; exact hb k0 d0 hk0
        · rw [e1, hd.1]
          rename_i e3 _ _
          have hx0 : x.k = k0 := by assumption
          exact hxy d0 dy e (by rw [hx0]; exact hk0) h2 h3
      · rcases hget h2 with ⟨_, e2⟩ | ⟨_, h2⟩
        · rw [e2] at h3
          rw [(he1 e h3).1]; exact hb _ dx h1
        · exact hxy dx dy e h1 h2 h3
    · intro hdd
      rcases hpp with rfl | ⟨e1, e2, e3, e4⟩
      · cases ph' with
        | no => exact hph
        | done v => exact hph
        | ref => exact ⟨hph.1, hph.2.mono (Nat.le_succ i)⟩
      · subst e1 e2
        exact ⟨hph, e4⟩
  -- a new effect
  have hnew : ph = .no → (∀ e, d1.e ≠ some e) → ∀ v, ph' = .done v → (isPut c = true → v = argV c) → (otell q l (isPut c) v).1 = v → l' = (otell q l (isPut c) v).2 → LI q N m P' (i + 1) (ths.set n p') (ds.set k0 d1) (H ++ [⟨k0, isPut c, v⟩]) l' := by
    intro e1 hne v e2 e3 e4 e5
    subst e1 e2 e5
    have hph : ∀ x ∈ H, x.k ≠ k0 := hph
    refine ⟨h.seq.snoc (x := ⟨k0, isPut c, v⟩) e4, ?_, fun x hx => ?_, hcallD, fun k d e hk he => ?_, ?_, hown ?_ (fun x h => List.mem_append_left _ h) (fun x h => ?_)⟩
    · rw [List.map_append, List.nodup_append]
      refine ⟨h.nd, by simp, fun a ha b hb2 => ?_⟩
      simp only [List.map_cons, List.map_nil, List.mem_singleton] at hb2
      obtain ⟨x, hx, rfl⟩ := List.mem_map.1 ha
      rw [hb2]; exact hph x hx
    · rcases List.mem_append.1 hx with hx | hx
      · obtain ⟨d, c', b1, b2, b3, b4, b5, b6⟩ := h.ent x hx
        exact ⟨d, c', set_get b1 (fun e' => hph x hx e'.symm) _, b2, b3, b4, by omega, b6⟩
      · rw [List.mem_singleton.1 hx]
        exact ⟨d1, c, set_at hk0 _, hcall, rfl, e3, by rw [hd.1]; exact Nat.lt_succ_of_le (hb k0 d0 hk0), fun e he => absurd he (hne e)⟩
    · rcases hget hk with ⟨f1, f2⟩ | ⟨hkk, hk⟩
      · subst f1 f2; exact absurd he (hne e)
      · rcases h.cov k d e hk he with ⟨x, h1, h2⟩ | ⟨h1, h2, h3⟩
        · exact .inl ⟨x, List.mem_append_left _ h1, h2⟩
        · exact .inr ⟨h1, h2, hfull (hb k d hk) h3⟩
    · rw [List.pairwise_append]
      refine ⟨h.rt.imp_of_mem fun {x y} hx hy hxy dx dy e h1 h2 h3 => ?_, by simp, fun x hx y hy dx dy e h1 h2 h3 => ?_⟩
      · rcases hget h1 with ⟨f1, _⟩ | ⟨_, h1⟩
        · exact absurd f1 (hph x hx)
        · rcases hget h2 with ⟨f1, _⟩ | ⟨_, h2⟩
          · exact absurd f1 (hph y hy)
          · exact hxy dx dy e h1 h2 h3
      · rw [List.mem_singleton.1 hy] at h2
        rcases hget h2 with ⟨_, f2⟩ | ⟨f1, _⟩
        · rw [f2] at h3; exact absurd h3 (hne e)
        · exact absurd rfl f1
    · intro _
      exact ⟨_, List.mem_append_right _ (List.mem_singleton.2 rfl), rfl, rfl⟩
    · rcases List.mem_append.1 h with h1 | h1
      · exact .inl h1
      · rw [List.mem_singleton.1 h1]; exact .inr rfl
  rcases heff with ⟨f1, f2⟩ | ⟨f1, f2, f3, f4⟩ | ⟨f1, f2, f3, f4⟩ | ⟨f1, f2, f3, f4, f5⟩
  · exact ⟨H, hsame f2 (.inl f1)⟩
  · have hne : ∀ e, d1.e ≠ some e := fun e he => by rw [(he1 e he).2.1, f1] at f3; cases f3
    exact ⟨_, hnew f1 hne _ f3 (fun _ => rfl) (by rw [f2]; rfl) (by rw [f4, f2]; rfl)⟩
  · have hne : ∀ e, d1.e ≠ some e := fun e he => by rw [(he1 e he).2.1, f1] at f3; cases f3
    exact ⟨_, hnew f1 hne _ f3 (fun hx => by rw [f2] at hx; cases hx) (by rw [f2]; exact rfl) (by rw [f4, f2]; rfl)⟩
  · exact ⟨H, hsame f4 (.inr ⟨f1, f3, f2, f5⟩)⟩
end
/-- what every run of an object keeps -/
theorem slog_keeps {q : Bool} {N : Nat} {m : Mach} {P : List Int → VCall → Ph → Th → Prop} {B : Nat} {G : Nat → List PT → List Int → List Int → Prop} (M : ObjMS q N m B P G) (l : List Nat) (hB : l.length ≤ B) : PKeeps m l (fun i ths ws ds => ∃ H s, G i ths ws s ∧ LI q N m (P ws) i ths ds H s) where
  idle := by
    rintro i s n hi hD ⟨H, x, hG, h⟩ hn
    refine ⟨H, x, M.up _ _ _ _ hG, h.seq, h.nd, fun y hy => ?_, h.call, h.cov, h.rt, fun n nx ci t ht => ?_⟩
    · obtain ⟨d, c, b1, b2, b3, b4, b5, b6⟩ := h.ent y hy
      exact ⟨d, c, b1, b2, b3, b4, by omega, b6⟩
    · obtain ⟨a1, c, ph, a2, a3, a4, a5⟩ := h.th n nx ci t ht
      refine ⟨a1, c, ph, a2, a3, a4, fun k d hk h1 h2 => ?_⟩
      have := a5 k d hk h1 h2
      cases ph with
      | no => exact this
      | done v => exact this
      | ref => exact ⟨this.1, this.2.mono (Nat.le_succ i)⟩
  begin_ := by
    rintro i s n nx calls c hi hD ⟨H, x, hG, h⟩ hn hc hcc
    have hcall : callOf m n nx = some c := by unfold callOf; rw [hc]; exact hcc
    obtain ⟨hP, hG'⟩ := M.beg _ _ _ _ n nx c hG hn hcall
    have hb : ∀ (k : Nat) (d : Dg), (doings s.evs)[k]? = some d → d.b < i := fun k d hk => (hD.time k d hk).1
    have hHl : ∀ y ∈ H, y.k < (doings s.evs).length := fun y hy => by
      obtain ⟨d, c, b1, _⟩ := h.ent y hy
      exact (List.getElem?_eq_some_iff.1 b1).1
    refine ⟨H, x, hG', h.seq, h.nd, fun y hy => ?_, fun k d hk => ?_, fun k d e hk he => ?_, h.rt.imp_of_mem fun {y z} hy hz hyz dx dy e h1 h2 h3 => ?_, fun n' nx' ci t ht => ?_⟩
    · obtain ⟨d, c, b1, b2⟩ := h.ent y hy
      exact ⟨d, c, snoc_get b1 _, b2⟩
    · rcases get_snoc hk with hk | ⟨_, rfl⟩
      · exact h.call k d hk
      · exact ⟨c, hcall, M.call n nx c hcall⟩
    · rcases get_snoc hk with hk | ⟨_, rfl⟩
      · rcases h.cov k d e hk he with h1 | ⟨h1, h2, h3⟩
        · exact .inl h1
        · exact .inr ⟨h1, h2, h3.snoc _ rfl⟩
      · cases he
    · rcases get_snoc h1 with h1 | ⟨f1, _⟩
      · rcases get_snoc h2 with h2 | ⟨f1, _⟩
        · exact hyz dx dy e h1 h2 h3
        · have := hHl z hz; omega
      · have := hHl y hy; omega
    · rcases get_set ht with ⟨e1, e2⟩ | ⟨e1, e2⟩
      · injection e2 with e3 e4; injection e4 with e4; injection e4 with e4 e5
        subst e1 e3 e4 e5
        refine ⟨by omega, c, .no, by rw [Nat.add_sub_cancel]; exact hcall, rfl, hP, fun k d hk h1 h2 y hy => ?_⟩
        rw [Nat.add_sub_cancel] at h2
        rcases get_snoc hk with hk | ⟨f1, _⟩
        · obtain ⟨p, hp, h3, _⟩ := hD.lt k d hk
          rw [h1, hn] at hp; injection hp with hp; subst hp
          simp only at h3; omega
        · have := hHl y hy; omega
      · obtain ⟨a1, c', ph, a2, a3, a4, a5⟩ := h.th n' nx' ci t e2
        refine ⟨a1, c', ph, a2, a3, a4, fun k d hk h1 h2 => ?_⟩
        rcases get_snoc hk with hk | ⟨_, rfl⟩
        · have := a5 k d hk h1 h2
          cases ph with
          | no => exact this
          | done v => exact this
          | ref => exact ⟨this.1, this.2.snoc _ rfl⟩
        · exact absurd h1.symm e1
  cont := by
    rintro i s n nx ci t hi hD ⟨H, x, hG, h⟩ hn hov
    obtain ⟨k0, d0, hk0, ht0, hdc0, he0, _⟩ := hD.cur hn rfl
    have hdc0 : d0.c = nx - 1 := hdc0
    obtain ⟨a1, c, ph, a2, a3, a4, a5⟩ := h.th n nx ci t hn
    subst a3
    obtain ⟨nx, rfl⟩ : ∃ y, nx = y + 1 := ⟨nx - 1, by omega⟩
    rw [Nat.add_sub_cancel] at hdc0 a2 a5
    have hb : ∀ (k : Nat) (d : Dg), (doings s.evs)[k]? = some d → d.b ≤ i := fun k d hk => Nat.le_of_lt_succ (hD.time k d hk).1
    obtain ⟨hoP, ph', l', e1, e2⟩ := M.act _ _ _ _ n nx t c ph (Nat.lt_of_lt_of_le (List.getElem?_eq_some_iff.1 hi).1 hB) hG hn a2 a4
    rcases e2 with ⟨f1, f2, f3, f4⟩ | ⟨f1, _⟩
    · obtain ⟨H', hL⟩ := h.ownS hk0 hn ht0 he0 hoP (fun k d hk h1 h2 => hD.uniq k k0 d d0 hk hk0 (by rw [h1, ht0]) h2) hb ⟨nx + 1, some (c.code, (vstep (m.codes.getD c.code []) t s.words).1)⟩ d0 ⟨rfl, rfl, rfl⟩ (by rw [hdc0]; exact a2) (a5 k0 d0 hk0 ht0 hdc0) (f2.imp fun hno hR => h.fullS hD hk0 ht0 (by have h9 := a5 k0 d0 hk0 ht0 hdc0; rw [hno] at h9; exact h9) hb hR)
        (fun ci t2 e => by injection e with e; injection e with g1 g2; subst g1 g2; exact ⟨rfl, by rw [hdc0], rfl, f3⟩) (fun e he => by rw [he0] at he; cases he)
      rw [setSelf hk0] at hL
      exact ⟨H', l', f4, hL⟩
    · rw [f1] at hov; cases hov
  fin_ := by
    rintro i s n nx ci t k0 d0 hi hD ⟨H, x, hG, h⟩ hn hov hk0 ht0 hdc0 he0 htold
    obtain ⟨a1, c, ph, a2, a3, a4, a5⟩ := h.th n nx ci t hn
    subst a3
    obtain ⟨nx, rfl⟩ : ∃ y, nx = y + 1 := ⟨nx - 1, by omega⟩
    rw [Nat.add_sub_cancel] at hdc0 a2 a5
    have hb : ∀ (k : Nat) (d : Dg), (doings s.evs)[k]? = some d → d.b ≤ i := fun k d hk => Nat.le_of_lt_succ (hD.time k d hk).1
    obtain ⟨hoP, ph', l', e1, e2⟩ := M.act _ _ _ _ n nx t c ph (Nat.lt_of_lt_of_le (List.getElem?_eq_some_iff.1 hi).1 hB) hG hn a2 a4
    rcases e2 with ⟨f1, _⟩ | ⟨f1, f2, f3, f4, f5⟩
    · rw [f1] at hov; cases hov
    · obtain ⟨H', hL⟩ := h.ownS hk0 hn ht0 he0 hoP (fun k d hk h1 h2 => hD.uniq k k0 d d0 hk hk0 (by rw [h1, ht0]) h2) hb ⟨nx + 1, none⟩ { d0 with e := some i, told := (vstep (m.codes.getD c.code []) t s.words).1.told } ⟨rfl, rfl, rfl⟩ (by rw [hdc0]; exact a2) (a5 k0 d0 hk0 ht0 hdc0) (.inl ⟨f2, f3⟩)
        (fun ci t2 e => by cases e) (fun e he => by injection he with he; exact ⟨he.symm, f2, f3, f4⟩)
      exact ⟨⟨H', l', f5, hL⟩, e1⟩
end

section
open Go.RowKit
/-! ### both codes at once: k: it pushes. The list that it takes from is k, the other one is where it gives to (true: nodes that are free) -/
def wi : Bool → Int | true => 1 | false => 0
def sCode : Bool → List Op5 | true => spushCode | false => spopCode
def sT (k : Bool) (p : Nat) (v now node at_ next val turn : Int) : Th := match k with
  | true => spushT p v now node at_ next val turn
  | false => spopT p now node at_ next val turn v
def sI (k : Bool) (p : Nat) (v : Int) : Th := match k with
  | true => ⟨v :: (([1, 2, 64] : List Int).take p ++ List.replicate (23 - p) 0), p, [], 0, false⟩
  | false => ⟨([1, 2, 64] : List Int).take p ++ List.replicate (24 - p) 0, p, [], 0, false⟩
theorem wi_bd (j : Bool) : 0 ≤ wi j ∧ wi j ≤ 1 := by cases j <;> decide
theorem wi_ne (j : Bool) : (wi j).toNat ≠ (wi (!j)).toNat := by cases j <;> decide
theorem wi_ad (j : Bool) : wrap64 (0 + wi j) = wi j := by cases j; exact w00; exact w01
section
variable (k : Bool) (v now node at_ next val turn : Int) (ws : List Int)
theorem s_i0 : vstep (sCode k) (sI k 0 v) ws = (sI k 1 v, ws) := by cases k <;> rfl
theorem s_i1 : vstep (sCode k) (sI k 1 v) ws = (sI k 2 v, ws) := by cases k <;> rfl
theorem s_i2 : ∃ v', (k = true → v' = v) ∧ vstep (sCode k) (sI k 2 v) ws = (sT k 3 v' 0 0 0 0 0 0, ws) := by
  cases k
  · exact ⟨0, (fun h => by cases h), rfl⟩
  · exact ⟨v, fun _ => rfl, rfl⟩
theorem s_3 (hl : 2 ≤ ws.length) : vstep (sCode k) (sT k 3 v now node at_ next val turn) ws = (sT k 4 v (vget ws (wi k)) node at_ next val turn, ws) := by
  cases k
  · exact spop_3 now node at_ next val turn v ws 0 w00 (by decide) (by omega)
  · exact spush_3 v now node at_ next val turn ws 1 w01 (by decide) (by omega)
theorem s_4 : vstep (sCode k) (sT k 4 v now node at_ next val turn) ws = (sT k 5 v now (Int.tmod now 64) at_ next val turn, ws) := by cases k <;> rfl
theorem s_5z (h : node = 0) : vstep (sCode k) (sT k 5 v now node at_ next val turn) ws = (sT k 27 v now node at_ next val turn, ws) := by
  cases k
  · exact spop_5z now node at_ next val turn v ws h
  · exact spush_5z v now node at_ next val turn ws h
theorem s_5n (h : node ≠ 0) : vstep (sCode k) (sT k 5 v now node at_ next val turn) ws = (sT k 6 v now node at_ next val turn, ws) := by
  cases k
  · exact spop_5n now node at_ next val turn v ws h
  · exact spush_5n v now node at_ next val turn ws h
theorem s_6 : vstep (sCode k) (sT k 6 v now node at_ next val turn) ws = (sT k 7 v now node (wrap64 (node * 2)) next val turn, ws) := by cases k <;> rfl
theorem s_7 (ad : Int) (ha : wrap64 (at_ + 1) = ad) (h0 : 0 ≤ ad) (h1 : ad < (ws.length : Int)) : vstep (sCode k) (sT k 7 v now node at_ next val turn) ws = (sT k 8 v now node at_ (vget ws ad) val turn, ws) := by
  cases k
  · exact spop_7 now node at_ next val turn v ws ad ha h0 h1
  · exact spush_7 v now node at_ next val turn ws ad ha h0 h1
theorem s_8 (ad : Int) (ha : wrap64 (at_ + 0) = ad) (h0 : 0 ≤ ad) (h1 : ad < (ws.length : Int)) : vstep (sCode k) (sT k 8 v now node at_ next val turn) ws = (sT k 9 v now node at_ next (vget ws ad) turn, ws) := by
  cases k
  · exact spop_8 now node at_ next val turn v ws ad ha h0 h1
  · exact spush_8 v now node at_ next val turn ws ad ha h0 h1
theorem s_9 : vstep (sCode k) (sT k 9 v now node at_ next val turn) ws = (sT k 10 v now node at_ next val (wrap64 (Int.tdiv now 64)), ws) := by cases k <;> rfl
theorem s_10 : vstep (sCode k) (sT k 10 v now node at_ next val turn) ws = (sT k 11 v now node at_ next val (wrap64 (turn + 1)), ws) := by cases k <;> rfl
theorem s_11 : vstep (sCode k) (sT k 11 v now node at_ next val turn) ws = (sT k 12 v now node at_ next val (wrap64 (turn * 64)), ws) := by cases k <;> rfl
theorem s_12 : vstep (sCode k) (sT k 12 v now node at_ next val turn) ws = (sT k 13 v now node at_ next val (wrap64 (turn + next)), ws) := by cases k <;> rfl
theorem s_13y (hl : 2 ≤ ws.length) (he : vget ws (wi k) = now) : vstep (sCode k) (sT k 13 v now node at_ next val turn) ws = (sT k 14 v now node at_ next val 1, vset ws (wi k) turn) := by
  cases k
  · exact spop_13y now node at_ next val turn v ws 0 w00 (by decide) (by omega) he
  · exact spush_13y v now node at_ next val turn ws 1 w01 (by decide) (by omega) he
theorem s_13n (hl : 2 ≤ ws.length) (he : vget ws (wi k) ≠ now) : vstep (sCode k) (sT k 13 v now node at_ next val turn) ws = (sT k 14 v now node at_ next val 0, ws) := by
  cases k
  · exact spop_13n now node at_ next val turn v ws 0 w00 (by decide) (by omega) he
  · exact spush_13n v now node at_ next val turn ws 1 w01 (by decide) (by omega) he
theorem s_14z : vstep (sCode k) (sT k 14 v now node at_ next val 0) ws = (sT k 3 v now node at_ next val 0, ws) := by cases k <;> rfl
theorem s_14n : vstep (sCode k) (sT k 14 v now node at_ next val 1) ws = (sT k 15 v now node at_ next val 1, ws) := by cases k <;> rfl
theorem s_15t (ad : Int) (ha : wrap64 (at_ + 0) = ad) (h0 : 0 ≤ ad) (h1 : ad < (ws.length : Int)) : vstep (sCode true) (sT true 15 v now node at_ next val turn) ws = (sT true 16 v now node at_ next val turn, vset ws ad v) := spush_15 v now node at_ next val turn ws ad ha h0 h1
theorem s_15f : vstep (sCode false) (sT false 15 v now node at_ next val turn) ws = (sT false 16 val now node at_ next val turn, ws) := rfl
theorem s_16 (hl : 2 ≤ ws.length) : vstep (sCode k) (sT k 16 v now node at_ next val turn) ws = (sT k 17 v (vget ws (wi (!k))) node at_ next val turn, ws) := by
  cases k
  · exact spop_16 now node at_ next val turn v ws 1 w01 (by decide) (by omega)
  · exact spush_16 v now node at_ next val turn ws 0 w00 (by decide) (by omega)
theorem s_17 : vstep (sCode k) (sT k 17 v now node at_ next val turn) ws = (sT k 18 v now node at_ (Int.tmod now 64) val turn, ws) := by cases k <;> rfl
theorem s_18 (ad : Int) (ha : wrap64 (at_ + 1) = ad) (h0 : 0 ≤ ad) (h1 : ad < (ws.length : Int)) : vstep (sCode k) (sT k 18 v now node at_ next val turn) ws = (sT k 19 v now node at_ next val turn, vset ws ad next) := by
  cases k
  · exact spop_18 now node at_ next val turn v ws ad ha h0 h1
  · exact spush_18 v now node at_ next val turn ws ad ha h0 h1
theorem s_19 : vstep (sCode k) (sT k 19 v now node at_ next val turn) ws = (sT k 20 v now node at_ next val (wrap64 (Int.tdiv now 64)), ws) := by cases k <;> rfl
theorem s_20 : vstep (sCode k) (sT k 20 v now node at_ next val turn) ws = (sT k 21 v now node at_ next val (wrap64 (turn + 1)), ws) := by cases k <;> rfl
theorem s_21 : vstep (sCode k) (sT k 21 v now node at_ next val turn) ws = (sT k 22 v now node at_ next val (wrap64 (turn * 64)), ws) := by cases k <;> rfl
theorem s_22 : vstep (sCode k) (sT k 22 v now node at_ next val turn) ws = (sT k 23 v now node at_ next val (wrap64 (turn + node)), ws) := by cases k <;> rfl
theorem s_23y (hl : 2 ≤ ws.length) (he : vget ws (wi (!k)) = now) : vstep (sCode k) (sT k 23 v now node at_ next val turn) ws = (sT k 24 v now node at_ next val 1, vset ws (wi (!k)) turn) := by
  cases k
  · exact spop_23y now node at_ next val turn v ws 1 w01 (by decide) (by omega) he
  · exact spush_23y v now node at_ next val turn ws 0 w00 (by decide) (by omega) he
theorem s_23n (hl : 2 ≤ ws.length) (he : vget ws (wi (!k)) ≠ now) : vstep (sCode k) (sT k 23 v now node at_ next val turn) ws = (sT k 24 v now node at_ next val 0, ws) := by
  cases k
  · exact spop_23n now node at_ next val turn v ws 1 w01 (by decide) (by omega) he
  · exact spush_23n v now node at_ next val turn ws 0 w00 (by decide) (by omega) he
theorem s_24z : vstep (sCode k) (sT k 24 v now node at_ next val 0) ws = (sT k 16 v now node at_ next val 0, ws) := by cases k <;> rfl
theorem s_24n : vstep (sCode k) (sT k 24 v now node at_ next val 1) ws = (sT k 25 v now node at_ next val 1, ws) := by cases k <;> rfl
theorem s_25 : vstep (sCode k) (sT k 25 v now node at_ next val turn) ws = ({ sT k 26 v now node at_ next val turn with told := [if k then 1 else v] }, ws) := by cases k <;> rfl
theorem s_26 (l : List Int) : vstep (sCode k) { sT k 26 v now node at_ next val turn with told := l } ws = ({ sT k 27 v now node at_ next val turn with told := l, over := true }, ws) := by cases k <;> rfl
theorem s_27t : vstep (sCode true) (sT true 27 v now node at_ next val turn) ws = ({ sT true 28 v now node at_ next val turn with told := [0], over := true }, ws) := rfl
theorem s_27f : vstep (sCode false) (sT false 27 v now node at_ next val turn) ws = (sT false 28 (-1) now node at_ next val turn, ws) := rfl
theorem s_28f : vstep (sCode false) (sT false 28 v now node at_ next val turn) ws = ({ sT false 29 v now node at_ next val turn with told := [v], over := true }, ws) := rfl
end
/-! ### the words -/
/-- L: the lists; c: how often each changed; hs: the nodes that somebody holds -/
structure SGS (N i : Nat) (L : Bool → List Nat) (c : Bool → Nat) (hs : List Nat) (ws : List Int) : Prop where
  len : ws.length = 2 * N + 2
  nd : ∀ j, (L j).Nodup
  ndh : hs.Nodup
  dj : ∀ j, ∀ x ∈ L j, x ∉ L (!j)
  dh : ∀ j, ∀ x ∈ L j, x ∉ hs
  mem : ∀ j, ∀ x ∈ L j, 1 ≤ x ∧ x ≤ N
  memh : ∀ x ∈ hs, 1 ≤ x ∧ x ≤ N
  size : (L false).length + (L true).length + hs.length = N
  ci : ∀ j, c j ≤ i
  w : ∀ j, vget ws (wi j) = 64 * (c j : Int) + headI (L j)
  ch : ∀ j, Chain ws (L j) (headI (L j))
  pos : ∀ x ∈ L false, 0 ≤ vget ws (2 * (x : Int))
section
variable {N i : Nat} {L : Bool → List Nat} {c : Bool → Nat} {hs : List Nat} {ws : List Int}
theorem SGS.up (h : SGS N i L c hs ws) : SGS N (i + 1) L c hs ws := ⟨h.len, h.nd, h.ndh, h.dj, h.dh, h.mem, h.memh, h.size, fun j => Nat.le_succ_of_le (h.ci j), h.w, h.ch, h.pos⟩
theorem SGS.perm {hs' : List Nat} (h : SGS N i L c hs ws) (hp : hs.Perm hs') : SGS N i L c hs' ws :=
  ⟨h.len, h.nd, hp.nodup_iff.1 h.ndh, h.dj, fun j x hx hm => h.dh j x hx (hp.mem_iff.2 hm), h.mem, fun x hx => h.memh x (hp.mem_iff.2 hx), by have := hp.length_eq; have := h.size; omega, h.ci, h.w, h.ch, h.pos⟩
theorem SGS.hb (h : SGS N i L c hs ws) (hN : N ≤ 8) (j : Bool) : 0 ≤ headI (L j) ∧ headI (L j) ≤ (N : Int) := headI_bd (h.mem j)
theorem SGS.wdiv (h : SGS N i L c hs ws) (hN : N ≤ 8) (j : Bool) : vget ws (wi j) / 64 = (c j : Int) ∧ vget ws (wi j) % 64 = headI (L j) := by
  have := h.w j; have := h.hb hN j; omega
theorem bool_cases (j k : Bool) : j = k ∨ j = !k := by cases j <;> cases k <;> simp
/-- who takes the first node of a list -/
theorem SGS.take (h : SGS N i L c hs ws) (hN : N ≤ 8) {k : Bool} {x : Nat} {r : List Nat} (hk : L k = x :: r) :
    SGS N (i + 1) (fun j => if j = k then r else L j) (fun j => if j = k then c k + 1 else c j) (x :: hs) (vset ws (wi k) (64 * ((c k : Int) + 1) + headI r)) ∧ ∀ l : List Nat, (∀ y ∈ l, 1 ≤ y) → valsOf (vset ws (wi k) (64 * ((c k : Int) + 1) + headI r)) l = valsOf ws l := by
  have hl := h.len
  have hwb := wi_bd k
  have hxk : x ∈ L k := by rw [hk]; exact List.mem_cons_self
  have hx := h.mem k x hxk
  have hnd := h.nd k
  rw [hk, List.nodup_cons] at hnd
  have hv : ∀ l : List Nat, (∀ y ∈ l, 1 ≤ y) → valsOf (vset ws (wi k) (64 * ((c k : Int) + 1) + headI r)) l = valsOf ws l := fun l hl2 => valsOf_set _ fun y hy => by have := hl2 y hy; omega
  have sub : ∀ j, ∀ y ∈ (if j = k then r else L j), y ∈ L j := by
    intro j y hy
    split at hy
    · rename_i e; subst e; rw [hk]; exact List.mem_cons_of_mem _ hy
    · exact hy
  have hcs : ∀ {l : List Nat} {hd : Int}, (∀ y ∈ l, 1 ≤ y) → Chain ws l hd → Chain (vset ws (wi k) (64 * ((c k : Int) + 1) + headI r)) l hd := fun {l hd} h1 h2 => Chain.set _ (fun y hy => by have := h1 y hy; omega) h2
  refine ⟨⟨by rw [vset_len, hl], fun j => ?_, ?_, fun j y hy hm => h.dj j y (sub j y hy) (sub _ y hm), fun j y hy hm => ?_, fun j y hy => h.mem j y (sub j y hy), fun y hy => ?_, ?_, fun j => ?_, fun j => ?_, fun j => ?_, fun y hy => ?_⟩, hv⟩
  · split
    · exact hnd.2
    · exact h.nd j
  · rw [List.nodup_cons]; exact ⟨h.dh k x hxk, h.ndh⟩
  · rcases List.mem_cons.1 hm with rfl | hm
    · split at hy
      · exact hnd.1 hy
      · rename_i hjk
        have e : j = !k := (bool_cases j k).resolve_left hjk
        subst e
        exact h.dj k y hxk hy
    · exact h.dh j y (sub j y hy) hm
  · rcases List.mem_cons.1 hy with rfl | hy
    · exact hx
    · exact h.memh y hy
  · have h1 := h.size
    cases k
    · rw [hk] at h1
      simp only [if_true, List.length_cons] at h1 ⊢
      simp
      omega
    · rw [hk] at h1
      simp only [if_true, List.length_cons] at h1 ⊢
      simp
      omega
  · have := h.ci j; have := h.ci k
    split <;> omega
  · by_cases hj : j = k
    · subst hj
      simp only [if_true]
      rw [vget_vset_eq _ _ hwb.1 (by omega)]
      omega
    · have e : j = !k := (bool_cases j k).resolve_left hj
      simp only [if_neg hj]
      rw [vget_vset_ne _ _ (by rw [e]; exact wi_ne k)]
      exact h.w j
  · have h1 := h.ch j
    by_cases hj : j = k
    · subst hj
      simp only [if_true]
      rw [hk] at h1
      have h2 := h1.2
      have e := h2.head
      rw [e] at h2
      exact hcs (fun y hy => (h.mem j y (by rw [hk]; exact List.mem_cons_of_mem _ hy)).1) h2
    · simp only [if_neg hj]
      exact hcs (fun y hy => (h.mem j y hy).1) h1
  · have hy' := sub false y hy
    rw [vget_vset_ne _ _ (by have := (h.mem false y hy').1; omega)]
    exact h.pos y hy'
/-- who gives a node to a list -/
theorem SGS.give {hs0 : List Nat} (h : SGS N i L c hs ws) (hN : N ≤ 8) {j0 : Bool} {x : Nat} (hh : hs = x :: hs0) (hnx : vget ws (2 * (x : Int) + 1) = headI (L j0)) (hpos : j0 = false → 0 ≤ vget ws (2 * (x : Int))) :
    SGS N (i + 1) (fun j => if j = j0 then x :: L j0 else L j) (fun j => if j = j0 then c j0 + 1 else c j) hs0 (vset ws (wi j0) (64 * ((c j0 : Int) + 1) + (x : Int))) ∧ ∀ l : List Nat, (∀ y ∈ l, 1 ≤ y) → valsOf (vset ws (wi j0) (64 * ((c j0 : Int) + 1) + (x : Int))) l = valsOf ws l := by
  subst hh
  have hl := h.len
  have hwb := wi_bd j0
  have hx := h.memh x List.mem_cons_self
  have hnd := h.ndh
  rw [List.nodup_cons] at hnd
  have hv : ∀ l : List Nat, (∀ y ∈ l, 1 ≤ y) → valsOf (vset ws (wi j0) (64 * ((c j0 : Int) + 1) + (x : Int))) l = valsOf ws l := fun l hl2 => valsOf_set _ fun y hy => by have := hl2 y hy; omega
  have sub : ∀ j, ∀ y ∈ (if j = j0 then x :: L j0 else L j), (y = x ∧ j = j0) ∨ y ∈ L j := by
    intro j y hy
    split at hy
    · rename_i e; subst e
      rcases List.mem_cons.1 hy with rfl | hy
      · exact .inl ⟨rfl, rfl⟩
      · exact .inr hy
    · exact .inr hy
  have hcs : ∀ {l : List Nat} {hd : Int}, (∀ y ∈ l, 1 ≤ y) → Chain ws l hd → Chain (vset ws (wi j0) (64 * ((c j0 : Int) + 1) + (x : Int))) l hd := fun {l hd} h1 h2 => Chain.set _ (fun y hy => by have := h1 y hy; omega) h2
  refine ⟨⟨by rw [vset_len, hl], fun j => ?_, hnd.2, fun j y hy hm => ?_, fun j y hy hm => ?_, fun j y hy => ?_, fun y hy => h.memh y (List.mem_cons_of_mem _ hy), ?_, fun j => ?_, fun j => ?_, fun j => ?_, fun y hy => ?_⟩, hv⟩
  · split
    · rename_i e; subst e
      rw [List.nodup_cons]; exact ⟨fun hm => h.dh j x hm List.mem_cons_self, h.nd j⟩
    · exact h.nd j
  · rcases sub j y hy with ⟨rfl, rfl⟩ | h1
    · rcases sub _ y hm with ⟨_, e⟩ | h2
      · cases j <;> simp at e
      · exact h.dh _ y h2 List.mem_cons_self
    · rcases sub _ y hm with ⟨rfl, e⟩ | h2
      · exact h.dh _ y h1 List.mem_cons_self
      · exact h.dj j y h1 h2
  · rcases sub j y hy with ⟨rfl, rfl⟩ | h1
    · exact hnd.1 hm
    · exact h.dh j y h1 (List.mem_cons_of_mem _ hm)
  · rcases sub j y hy with ⟨rfl, rfl⟩ | h1
    · exact hx
    · exact h.mem j y h1
  · have h1 := h.size
    cases j0 <;> simp at h1 ⊢ <;> omega
  · have := h.ci j; have := h.ci j0
    split <;> omega
  · by_cases hj : j = j0
    · subst hj
      simp only [if_true]
      rw [vget_vset_eq _ _ hwb.1 (by omega)]
      show _ = 64 * (((c j + 1 : Nat) : Int)) + (x : Int)
      omega
    · have e : j = !j0 := (bool_cases j j0).resolve_left hj
      simp only [if_neg hj]
      rw [vget_vset_ne _ _ (by rw [e]; exact wi_ne j0)]
      exact h.w j
  · have h1 := h.ch j
    by_cases hj : j = j0
    · subst hj
      simp only [if_true]
      refine ⟨rfl, ?_⟩
      rw [vget_vset_ne _ _ (by omega), hnx]
      exact hcs (fun y hy => (h.mem j y hy).1) h1
    · simp only [if_neg hj]
      exact hcs (fun y hy => (h.mem j y hy).1) h1
  · rcases sub false y hy with ⟨rfl, e⟩ | hy'
    · rw [vget_vset_ne _ _ (by omega)]
      exact hpos e.symm
    · rw [vget_vset_ne _ _ (by have := (h.mem false y hy').1; omega)]
      exact h.pos y hy'
/-- who writes into a node that it holds -/
theorem SGS.store (h : SGS N i L c hs ws) (hN : N ≤ 8) {x : Nat} (hx : x ∈ hs) {a : Int} (ha : a = 2 * (x : Int) ∨ a = 2 * (x : Int) + 1) (u : Int) :
    SGS N (i + 1) L c hs (vset ws a u) ∧ valsOf (vset ws a u) (L false) = valsOf ws (L false) := by
  have hx1 := h.memh x hx
  have hne : ∀ j, ∀ y ∈ L j, y ≠ x := fun j y hy e => by subst e; exact h.dh j y hy hx
  refine ⟨⟨by rw [vset_len, h.len], h.nd, h.ndh, h.dj, h.dh, h.mem, h.memh, h.size, fun j => Nat.le_succ_of_le (h.ci j), fun j => ?_, fun j => ?_, fun y hy => ?_⟩, ?_⟩
  · have := wi_bd j
    rw [vget_vset_ne _ _ (by omega)]; exact h.w j
  · exact Chain.set _ (fun y hy => by have := hne j y hy; omega) (h.ch j)
  · rw [vget_vset_ne _ _ (by have := hne _ y hy; omega)]; exact h.pos y hy
  · exact valsOf_set _ fun y hy => by have := hne _ y hy; omega
end
end

section
open Go.RowKit
/-! ### a thread -/
def NowOk (N : Nat) (ws : List Int) (j : Bool) (now : Int) : Prop := 0 ≤ now ∧ now % 64 ≤ (N : Int) ∧ (now / 64 < vget ws (wi j) / 64 ∨ now = vget ws (wi j))
def rph (k : Bool) : Ph := if k then .ref else .done (-1)
def zph (k : Bool) (now : Int) : Ph := if now % 64 = 0 then rph k else .no
def hph (k : Bool) (x : Int) : Ph := if k then .no else .done x
/-- what a thread that takes has read: the node that it will take, what is behind it, its number -/
structure Tk (N : Nat) (ws : List Int) (k : Bool) (x : Int) : Prop where
  now : NowOk N ws k x
  ne : x % 64 ≠ 0
structure Hd (N : Nat) (k : Bool) (v0 v node at_ : Int) : Prop where
  lo : 1 ≤ node
  hi : node ≤ (N : Int)
  at_ : at_ = 2 * node
  v : k = true → v = v0
inductive SkP (N : Nat) (ws : List Int) (k : Bool) (v0 : Int) : Ph → Th → Prop
  | i (p : Nat) (hp : p < 3) : SkP N ws k v0 .no (sI k p v0)
  | a3 (v now node at_ next val turn : Int) (hv : k = true → v = v0) : SkP N ws k v0 .no (sT k 3 v now node at_ next val turn)
  | a4 (v now node at_ next val turn : Int) (hv : k = true → v = v0) (hn : NowOk N ws k now) : SkP N ws k v0 (zph k now) (sT k 4 v now node at_ next val turn)
  | a5 (v now at_ next val turn : Int) (hv : k = true → v = v0) (hn : NowOk N ws k now) : SkP N ws k v0 (zph k now) (sT k 5 v now (now % 64) at_ next val turn)
  | z27 (v now node at_ next val turn : Int) : SkP N ws k v0 (rph k) (sT k 27 v now node at_ next val turn)
  | z28 (hk : k = false) (now node at_ next val turn : Int) : SkP N ws k v0 (.done (-1)) (sT k 28 (-1) now node at_ next val turn)
  | a6 (v now at_ next val turn : Int) (hv : k = true → v = v0) (ht : Tk N ws k now) : SkP N ws k v0 .no (sT k 6 v now (now % 64) at_ next val turn)
  | a7 (v now next val turn : Int) (hv : k = true → v = v0) (ht : Tk N ws k now) : SkP N ws k v0 .no (sT k 7 v now (now % 64) (2 * (now % 64)) next val turn)
  | a8 (v now next val turn : Int) (hv : k = true → v = v0) (ht : Tk N ws k now) (hx : now = vget ws (wi k) → next = vget ws (2 * (now % 64) + 1)) : SkP N ws k v0 .no (sT k 8 v now (now % 64) (2 * (now % 64)) next val turn)
  | a9 (p : Nat) (v now next val turn : Int) (hv : k = true → v = v0) (ht : Tk N ws k now) (hx : now = vget ws (wi k) → next = vget ws (2 * (now % 64) + 1)) (hy : now = vget ws (wi k) → val = vget ws (2 * (now % 64)))
      (hp : p = 9 ∨ (p = 10 ∧ turn = now / 64) ∨ (p = 11 ∧ turn = now / 64 + 1) ∨ (p = 12 ∧ turn = (now / 64 + 1) * 64) ∨ (p = 13 ∧ turn = wrap64 ((now / 64 + 1) * 64 + next))) : SkP N ws k v0 .no (sT k p v now (now % 64) (2 * (now % 64)) next val turn)
  | a14 (v now node at_ next val : Int) (hv : k = true → v = v0) : SkP N ws k v0 .no (sT k 14 v now node at_ next val 0)
  | h14 (p : Nat) (hp : p = 14 ∨ p = 15) (v now node at_ next val : Int) (hd : Hd N k v0 v node at_) (hx : k = false → 0 ≤ val) : SkP N ws k v0 (hph k val) (sT k p v now node at_ next val 1)
  | h16 (v now node at_ next val turn : Int) (hd : Hd N k v0 v node at_) (hx : k = false → 0 ≤ v) (hc : k = true → vget ws (2 * node) = v0) : SkP N ws k v0 (hph k v) (sT k 16 v now node at_ next val turn)
  | h17 (v now node at_ next val turn : Int) (hd : Hd N k v0 v node at_) (hx : k = false → 0 ≤ v) (hc : k = true → vget ws (2 * node) = v0) (hn : NowOk N ws (!k) now) : SkP N ws k v0 (hph k v) (sT k 17 v now node at_ next val turn)
  | h18 (v now node at_ val turn : Int) (hd : Hd N k v0 v node at_) (hx : k = false → 0 ≤ v) (hc : k = true → vget ws (2 * node) = v0) (hn : NowOk N ws (!k) now) : SkP N ws k v0 (hph k v) (sT k 18 v now node at_ (now % 64) val turn)
  | h19 (p : Nat) (v now node at_ val turn : Int) (hd : Hd N k v0 v node at_) (hx : k = false → 0 ≤ v) (hc : k = true → vget ws (2 * node) = v0) (hn : NowOk N ws (!k) now) (hs : vget ws (2 * node + 1) = now % 64)
      (hp : p = 19 ∨ (p = 20 ∧ turn = now / 64) ∨ (p = 21 ∧ turn = now / 64 + 1) ∨ (p = 22 ∧ turn = (now / 64 + 1) * 64) ∨ (p = 23 ∧ turn = (now / 64 + 1) * 64 + node)) : SkP N ws k v0 (hph k v) (sT k p v now node at_ (now % 64) val turn)
  | h24 (v now node at_ next val : Int) (hd : Hd N k v0 v node at_) (hx : k = false → 0 ≤ v) (hc : k = true → vget ws (2 * node) = v0) : SkP N ws k v0 (hph k v) (sT k 24 v now node at_ next val 0)
  | e24 (p : Nat) (hp : p = 24 ∨ p = 25) (v now node at_ next val : Int) (hv : k = true → v = v0) : SkP N ws k v0 (.done v) (sT k p v now node at_ next val 1)
  | e26 (v now node at_ next val : Int) (hv : k = true → v = v0) : SkP N ws k v0 (.done v) { sT k 26 v now node at_ next val 1 with told := [if k then 1 else v] }
/-- the node that a thread holds -/
def holdOf (k : Bool) (t : Th) : Option Nat :=
  if (t.pc = 14 ∧ t.regs.getD (if k then 10 else 9) 0 ≠ 0) ∨ (15 ≤ t.pc ∧ t.pc ≤ 23) ∨ (t.pc = 24 ∧ t.regs.getD (if k then 10 else 9) 0 = 0) then some (t.regs.getD (if k then 6 else 5) 0).toNat else none
theorem hold_sT (k : Bool) (p : Nat) (v now node at_ next val turn : Int) : holdOf k (sT k p v now node at_ next val turn) = if (p = 14 ∧ turn ≠ 0) ∨ (15 ≤ p ∧ p ≤ 23) ∨ (p = 24 ∧ turn = 0) then some node.toNat else none := by cases k <;> rfl
theorem hold_no {k : Bool} {p : Nat} {v now node at_ next val turn : Int} (h : p < 14 ∨ 24 < p ∨ (p = 14 ∧ turn = 0) ∨ (p = 24 ∧ turn ≠ 0)) : holdOf k (sT k p v now node at_ next val turn) = none := by
  rw [hold_sT, if_neg]
  omega
theorem hold_yes {k : Bool} {p : Nat} {v now node at_ next val turn : Int} (h : (p = 14 ∧ turn ≠ 0) ∨ (15 ≤ p ∧ p ≤ 23) ∨ (p = 24 ∧ turn = 0)) : holdOf k (sT k p v now node at_ next val turn) = some node.toNat := by rw [hold_sT, if_pos h]
theorem hold_i {k : Bool} {p : Nat} {v : Int} (hp : p < 3) : holdOf k (sI k p v) = none := by
  unfold holdOf
  rw [if_neg]
  cases k <;> (show ¬ ((p = 14 ∧ _) ∨ (15 ≤ p ∧ p ≤ 23) ∨ (p = 24 ∧ _)); omega)
theorem hold_told {k : Bool} {p : Nat} {v now node at_ next val turn : Int} {l : List Int} (h : 24 < p) : holdOf k { sT k p v now node at_ next val turn with told := l } = none := by
  have e : holdOf k { sT k p v now node at_ next val turn with told := l } = holdOf k (sT k p v now node at_ next val turn) := by cases k <;> rfl
  rw [e]; exact hold_no (.inr (.inl h))
theorem NowOk.other {N : Nat} {ws ws' : List Int} {j : Bool} {now : Int} (h : NowOk N ws j now) (hw : vget ws' (wi j) = vget ws (wi j) ∨ vget ws (wi j) / 64 < vget ws' (wi j) / 64) : NowOk N ws' j now := by
  refine ⟨h.1, h.2.1, ?_⟩
  rcases hw with e | e
  · rw [e]; exact h.2.2
  · rcases h.2.2 with g | g
    · exact .inl (by omega)
    · rw [g]; exact .inl e
theorem Tk.other {N : Nat} {ws ws' : List Int} {k : Bool} {now : Int} (h : Tk N ws k now) (hw : vget ws' (wi k) = vget ws (wi k) ∨ vget ws (wi k) / 64 < vget ws' (wi k) / 64) : Tk N ws' k now := ⟨h.now.other hw, h.ne⟩
/-- what others do: they write into the node z that they hold (0: none), and move a list's word on -/
structure Oth (N : Nat) (ws ws' : List Int) (z : Nat) : Prop where
  c : ∀ y : Int, 1 ≤ y → y ≤ (N : Int) → y ≠ (z : Int) → vget ws' (2 * y) = vget ws (2 * y) ∧ vget ws' (2 * y + 1) = vget ws (2 * y + 1)
  w : ∀ j, (vget ws' (wi j) = vget ws (wi j) ∧ (vget ws (wi j) % 64 = (z : Int) → z = 0)) ∨ vget ws (wi j) / 64 < vget ws' (wi j) / 64
theorem Oth.w2 {N : Nat} {ws ws' : List Int} {z : Nat} (h : Oth N ws ws' z) (j : Bool) : vget ws' (wi j) = vget ws (wi j) ∨ vget ws (wi j) / 64 < vget ws' (wi j) / 64 := (h.w j).imp (·.1) id
/-- what a thread has read of the first node is so still, if that is the first one still -/
theorem Oth.read {N : Nat} {ws ws' : List Int} {z : Nat} (h : Oth N ws ws' z) {k : Bool} {now : Int} (ht : Tk N ws k now) (e : now = vget ws' (wi k)) : now = vget ws (wi k) ∧ vget ws' (2 * (now % 64)) = vget ws (2 * (now % 64)) ∧ vget ws' (2 * (now % 64) + 1) = vget ws (2 * (now % 64) + 1) := by
  have h0 := ht.now.1; have h1 := ht.now.2.1; have h2 := ht.ne
  have hw : vget ws' (wi k) = vget ws (wi k) ∧ (vget ws (wi k) % 64 = (z : Int) → z = 0) := by
    rcases h.w k with g | g
    · exact g
    · exfalso
      rcases ht.now.2.2 with g2 | g2 <;> omega
  have e2 : now = vget ws (wi k) := by rw [e, hw.1]
  refine ⟨e2, h.c (now % 64) (by omega) h1 fun e3 => ?_⟩
  have := hw.2 (by rw [← e2]; exact e3)
  omega
theorem SkP.other {N : Nat} {ws ws' : List Int} {k : Bool} {v0 : Int} {ph : Ph} {t : Th} {z : Nat} (h : SkP N ws k v0 ph t) (o : Oth N ws ws' z) (hz : ∀ y, holdOf k t = some y → y ≠ z) : SkP N ws' k v0 ph t := by
  have held : ∀ {p : Nat} {v now node at_ next val turn : Int}, (∀ y, holdOf k (sT k p v now node at_ next val turn) = some y → y ≠ z) → ((p = 14 ∧ turn ≠ 0) ∨ (15 ≤ p ∧ p ≤ 23) ∨ (p = 24 ∧ turn = 0)) → Hd N k v0 v node at_ → vget ws' (2 * node) = vget ws (2 * node) ∧ vget ws' (2 * node + 1) = vget ws (2 * node + 1) := by
    intro p v now node at_ next val turn hz hp hd
    have h1 := hz _ (hold_yes hp)
    have := hd.lo
    exact o.c node hd.lo hd.hi (by omega)
  cases h with
  | i p hp => exact .i p hp
  | a3 v now node at_ next val turn hv => exact .a3 v now node at_ next val turn hv
  | a4 v now node at_ next val turn hv hn => exact .a4 v now node at_ next val turn hv (hn.other (o.w2 k))
  | a5 v now at_ next val turn hv hn => exact .a5 v now at_ next val turn hv (hn.other (o.w2 k))
  | z27 v now node at_ next val turn => exact .z27 v now node at_ next val turn
  | z28 hk now node at_ next val turn => exact .z28 hk now node at_ next val turn
  | a6 v now at_ next val turn hv ht => exact .a6 v now at_ next val turn hv (ht.other (o.w2 k))
  | a7 v now next val turn hv ht => exact .a7 v now next val turn hv (ht.other (o.w2 k))
  | a8 v now next val turn hv ht hx => exact .a8 v now next val turn hv (ht.other (o.w2 k)) fun e => by have g := o.read ht e; rw [g.2.2]; exact hx g.1
  | a9 p v now next val turn hv ht hx hy hp => exact .a9 p v now next val turn hv (ht.other (o.w2 k)) (fun e => by have g := o.read ht e; rw [g.2.2]; exact hx g.1) (fun e => by have g := o.read ht e; rw [g.2.1]; exact hy g.1) hp
  | a14 v now node at_ next val hv => exact .a14 v now node at_ next val hv
  | h14 p hp v now node at_ next val hd hx => exact .h14 p hp v now node at_ next val hd hx
  | h16 v now node at_ next val turn hd hx hc => exact .h16 v now node at_ next val turn hd hx fun e => by rw [(held hz (by omega) hd).1]; exact hc e
  | h17 v now node at_ next val turn hd hx hc hn => exact .h17 v now node at_ next val turn hd hx (fun e => by rw [(held hz (by omega) hd).1]; exact hc e) (hn.other (o.w2 _))
  | h18 v now node at_ val turn hd hx hc hn => exact .h18 v now node at_ val turn hd hx (fun e => by rw [(held hz (by omega) hd).1]; exact hc e) (hn.other (o.w2 _))
  | h19 p v now node at_ val turn hd hx hc hn hs hp => exact .h19 p v now node at_ val turn hd hx (fun e => by rw [(held hz (by omega) hd).1]; exact hc e) (hn.other (o.w2 _)) (by rw [(held hz (by omega) hd).2]; exact hs) hp
  | h24 v now node at_ next val hd hx hc => exact .h24 v now node at_ next val hd hx fun e => by rw [(held hz (by omega) hd).1]; exact hc e
  | e24 p hp v now node at_ next val hv => exact .e24 p hp v now node at_ next val hv
  | e26 v now node at_ next val hv => exact .e26 v now node at_ next val hv
/-! ### all threads -/
def holdP (p : PT) : Option Nat := match p.cur with | some (ci, t) => holdOf (ci == 0) t | none => none
def heldL (ths : List PT) : List Nat := ths.filterMap holdP
theorem heldL_set : ∀ {ths : List PT} {n : Nat} {p : PT}, ths[n]? = some p → ∃ rest, (heldL ths).Perm ((holdP p).toList ++ rest) ∧ (∀ p', (heldL (ths.set n p')).Perm ((holdP p').toList ++ rest)) ∧ ∀ n' q y, n' ≠ n → ths[n']? = some q → holdP q = some y → y ∈ rest
  | [], n, p, h => by simp at h
  | x :: ths, 0, p, h => by
    injection h with h; subst h
    refine ⟨heldL ths, ?_, fun p' => ?_, fun n' q y hn hq hy => ?_⟩
    · unfold heldL
      cases hx : holdP x with
      | none => rw [List.filterMap_cons_none hx]; exact List.Perm.refl _
      | some z => rw [List.filterMap_cons_some hx]; exact List.Perm.refl _
    · unfold heldL
      rw [List.set_cons_zero]
      cases hx : holdP p' with
      | none => rw [List.filterMap_cons_none hx]; exact List.Perm.refl _
      | some z => rw [List.filterMap_cons_some hx]; exact List.Perm.refl _
    · obtain ⟨m, rfl⟩ : ∃ m, n' = m + 1 := ⟨n' - 1, by omega⟩
      exact List.mem_filterMap.2 ⟨q, List.mem_of_getElem? (i := m) (by simpa using hq), hy⟩
  | x :: ths, n + 1, p, h => by
    obtain ⟨rest, h1, h2, h3⟩ := heldL_set (ths := ths) (n := n) (p := p) (by simpa using h)
    refine ⟨(holdP x).toList ++ rest, ?_, fun p' => ?_, fun n' q y hn hq hy => ?_⟩
    · have e : heldL (x :: ths) = (holdP x).toList ++ heldL ths := by
        unfold heldL
        cases hx : holdP x with
        | none => rw [List.filterMap_cons_none hx]; rfl
        | some z => rw [List.filterMap_cons_some hx]; rfl
      rw [e]
      refine (h1.append_left _).trans ?_
      rw [← List.append_assoc, ← List.append_assoc]
      exact List.perm_append_comm.append_right _
    · have e : heldL ((x :: ths).set (n + 1) p') = (holdP x).toList ++ heldL (ths.set n p') := by
        rw [List.set_cons_succ]
        unfold heldL
        cases hx : holdP x with
        | none => rw [List.filterMap_cons_none hx]; rfl
        | some z => rw [List.filterMap_cons_some hx]; rfl
      rw [e]
      refine ((h2 p').append_left _).trans ?_
      rw [← List.append_assoc, ← List.append_assoc]
      exact List.perm_append_comm.append_right _
    · cases n' with
      | zero =>
        injection hq with hq; subst hq
        exact List.mem_append_left _ (by rw [hy]; exact List.mem_singleton.2 rfl)
      | succ m => exact List.mem_append_right _ (h3 m q y (by omega) (by simpa using hq) hy)
/-- what holds of all -/
def SG (N i : Nat) (ths : List PT) (ws l : List Int) : Prop := ∃ L c, SGS N i L c (heldL ths) ws ∧ l = (valsOf ws (L false)).reverse
end

section
open Go.RowKit
def SkOut (N i : Nat) (k : Bool) (v0 : Int) (ths : List PT) (n nx ci : Nat) (ws l : List Int) (ph : Ph) (r : Th × List Int) : Prop :=
  (∃ z, Oth N ws r.2 z ∧ ∀ n' q y, n' ≠ n → ths[n']? = some q → holdP q = some y → y ≠ z) ∧
  ∃ ph' l', r.1.err = 0 ∧
    ((r.1.over = false ∧ OEffS false (N = l.length + (heldL ths).length ∧ ∀ p, ths[n]? = some p → holdP p = none) k (if k then v0 else 0) ph l ph' l' ∧ SkP N r.2 k v0 ph' r.1 ∧ SG N (i + 1) (ths.set n ⟨nx + 1, some (ci, r.1)⟩) r.2 l') ∨
     (r.1.over = true ∧ ph' = ph ∧ l' = l ∧ OTold k ph' r.1.told ∧ SG N (i + 1) (ths.set n ⟨nx + 1, none⟩) r.2 l'))
theorem Oth.refl {N : Nat} {ws : List Int} : Oth N ws ws 0 := ⟨fun y _ _ _ => ⟨rfl, rfl⟩, fun j => .inl ⟨rfl, fun _ => rfl⟩⟩
theorem holdP_c {ci nx : Nat} {t : Th} {k : Bool} (hk : (ci == 0) = k) : holdP ⟨nx, some (ci, t)⟩ = holdOf k t := by unfold holdP; simp only [hk]
theorem heldL_mem {ths : List PT} {n : Nat} {p : PT} {y : Nat} (h : ths[n]? = some p) (hp : holdP p = some y) : y ∈ heldL ths := List.mem_filterMap.2 ⟨p, List.mem_of_getElem? h, hp⟩
theorem no_zero {N i : Nat} {L : Bool → List Nat} {c : Bool → Nat} {ths : List PT} {ws : List Int} (S : SGS N i L c (heldL ths) ws) (n : Nat) : ∀ n' q y, n' ≠ n → ths[n']? = some q → holdP q = some y → y ≠ 0 := fun n' q y _ hq hy => by
  have := S.memh y (heldL_mem hq hy); omega
section
variable {N i : Nat} {k : Bool} {v0 : Int} {ths : List PT} {n nx ci : Nat} {ws l : List Int} {ph : Ph} {t : Th}
/-- the words stay as they are, and who holds what -/
theorem sk_quiet (hG : SG N i ths ws l) (hn : ths[n]? = some ⟨nx + 1, some (ci, t)⟩) (hk : (ci == 0) = k) {t' : Th} {ph' : Ph} {l' : List Int} (hs : vstep (sCode k) t ws = (t', ws)) (herr : t'.err = 0) (hov : t'.over = false) (hh : holdOf k t' = holdOf k t)
    (hE : OEffS false (N = l.length + (heldL ths).length ∧ ∀ p, ths[n]? = some p → holdP p = none) k (if k then v0 else 0) ph l ph' l') (hl : l' = l) (hP : SkP N ws k v0 ph' t') : SkOut N i k v0 ths n nx ci ws l ph (vstep (sCode k) t ws) := by
  rw [hs]
  obtain ⟨L, c, S, rfl⟩ := hG
  obtain ⟨rest, h1, h2, _⟩ := heldL_set hn
  refine ⟨⟨0, .refl, no_zero S n⟩, ph', l', herr, .inl ⟨hov, hE, hP, L, c, ?_, hl⟩⟩
  refine (S.up).perm (h1.trans ?_)
  refine List.Perm.trans ?_ (h2 _).symm
  rw [holdP_c hk, holdP_c hk, hh]
theorem sk_over (hG : SG N i ths ws l) (hn : ths[n]? = some ⟨nx + 1, some (ci, t)⟩) (hk : (ci == 0) = k) {t' : Th} (hs : vstep (sCode k) t ws = (t', ws)) (herr : t'.err = 0) (hov : t'.over = true) (hh : holdOf k t = none) (ht : OTold k ph t'.told) : SkOut N i k v0 ths n nx ci ws l ph (vstep (sCode k) t ws) := by
  rw [hs]
  obtain ⟨L, c, S, rfl⟩ := hG
  obtain ⟨rest, h1, h2, _⟩ := heldL_set hn
  refine ⟨⟨0, .refl, no_zero S n⟩, ph, _, herr, .inr ⟨hov, rfl, rfl, ht, L, c, ?_, rfl⟩⟩
  refine (S.up).perm (h1.trans ?_)
  refine List.Perm.trans ?_ (h2 _).symm
  rw [holdP_c hk, hh]; exact List.Perm.refl _
/-- it writes into the node that it holds -/
theorem sk_store (hN : 1 ≤ N ∧ N ≤ 8) (hG : SG N i ths ws l) (hn : ths[n]? = some ⟨nx + 1, some (ci, t)⟩) (hk : (ci == 0) = k) {t' : Th} {x : Nat} {a u : Int} (ha : a = 2 * (x : Int) ∨ a = 2 * (x : Int) + 1) (hs : vstep (sCode k) t ws = (t', vset ws a u)) (herr : t'.err = 0) (hov : t'.over = false) (hh : holdOf k t = some x) (hh' : holdOf k t' = some x)
    (hP : SkP N (vset ws a u) k v0 ph t') : SkOut N i k v0 ths n nx ci ws l ph (vstep (sCode k) t ws) := by
  rw [hs]
  obtain ⟨L, c, S, rfl⟩ := hG
  obtain ⟨rest, h1, h2, h3⟩ := heldL_set hn
  have hx : x ∈ heldL ths := heldL_mem hn (by rw [holdP_c hk]; exact hh)
  have hx1 := S.memh x hx
  rw [holdP_c hk, hh] at h1
  have hnr : x ∉ rest := by
    have := h1.nodup_iff.1 S.ndh
    exact (List.nodup_cons.1 this).1
  obtain ⟨S2, hv⟩ := S.store hN.2 hx ha u
  refine ⟨⟨x, ⟨fun y hy1 hy2 hyx => ?_, fun j => ?_⟩, fun n' q y hne hq hy e => ?_⟩, ph, _, herr, .inl ⟨hov, .inl ⟨rfl, rfl⟩, hP, L, c, ?_, by rw [hv]⟩⟩
  · rw [vget_vset_ne _ _ (by omega), vget_vset_ne _ _ (by omega)]; exact ⟨rfl, rfl⟩
  · left
    have hwb := wi_bd j
    refine ⟨by rw [vget_vset_ne _ _ (by omega)], fun e => ?_⟩
    exfalso
    have hd := (S.wdiv hN.2 j).2
    rw [hd] at e
    match hL : L j with
    | [] => rw [hL] at e; have : (0 : Int) = (x : Int) := e; omega
    | y :: r =>
      rw [hL] at e
      have e : (y : Int) = (x : Int) := e
      have : y = x := by omega
      subst this
      exact S.dh j y (by rw [hL]; exact List.mem_cons_self) hx
  · subst e; exact hnr (h3 n' q y hne hq hy)
  · refine S2.perm (h1.trans ?_)
    refine List.Perm.trans ?_ (h2 _).symm
    rw [holdP_c hk, hh']
/-- a list's word moves on -/
theorem oth_move (hN : N ≤ 8) {L : Bool → List Nat} {c : Bool → Nat} {hs : List Nat} (S : SGS N i L c hs ws) {j0 : Bool} {x : Int} (hx : 0 ≤ x ∧ x < 64) : Oth N ws (vset ws (wi j0) (64 * ((c j0 : Int) + 1) + x)) 0 := by
  have hwb := wi_bd j0
  refine ⟨fun y h1 h2 h3 => ?_, fun j => ?_⟩
  · rw [vget_vset_ne _ _ (by omega), vget_vset_ne _ _ (by omega)]; exact ⟨rfl, rfl⟩
  · rcases bool_cases j j0 with e | e
    · subst e
      right
      rw [vget_vset_eq _ _ hwb.1 (by have := S.len; omega)]
      have := (S.wdiv hN j).1
      omega
    · left
      rw [vget_vset_ne _ _ (by rw [e]; exact wi_ne j0)]
      exact ⟨rfl, fun _ => rfl⟩
theorem valsOf_cons (ws : List Int) (x : Nat) (r : List Nat) : (valsOf ws (x :: r)).reverse = (valsOf ws r).reverse ++ [vget ws (2 * (x : Int))] := by unfold valsOf; simp
theorem otell_stack (l : List Int) (x : Int) : otell false (l ++ [x]) false 0 = (x, l) := by
  cases h : l ++ [x] with
  | nil => simp at h
  | cons y r =>
    show ((y :: r).getLast?.getD 0, (y :: r).dropLast) = (x, l)
    rw [← h]; simp
theorem arr_now {N i : Nat} {L : Bool → List Nat} {c : Bool → Nat} {hs : List Nat} {ws : List Int} (S : SGS N i L c hs ws) (hN : N ≤ 8) (hi : i ≤ 100000) {j : Bool} {now : Int} (h : NowOk N ws j now) : 0 ≤ now ∧ now / 64 ≤ 100000 ∧ now % 64 ≤ 8 ∧ now ≤ 6400100 ∧ Int.tmod now 64 = now % 64 ∧ wrap64 (Int.tdiv now 64) = now / 64 := by
  have h1 := (S.wdiv hN j).1
  have h2 := S.ci j
  have h0 := h.1
  have h3 := h.2.1
  have h4 : now / 64 ≤ 100000 := by rcases h.2.2 with g | g <;> omega
  refine ⟨h0, h4, by omega, by omega, Int.tmod_eq_emod_of_nonneg h0, ?_⟩
  rw [Int.tdiv_eq_ediv_of_nonneg h0]
  exact wsm (by omega) (by omega)
theorem nowOk_load {N i : Nat} {L : Bool → List Nat} {c : Bool → Nat} {hs : List Nat} {ws : List Int} (S : SGS N i L c hs ws) (hN : N ≤ 8) (j : Bool) : NowOk N ws j (vget ws (wi j)) := by
  have h1 := S.wdiv hN j
  have h2 := S.hb hN j
  have h3 := S.w j
  exact ⟨by omega, by rw [h1.2]; exact h2.2, .inr rfl⟩
theorem headI_nil {l : List Nat} (h : ∀ x ∈ l, 1 ≤ x) (e : headI l = 0) : l = [] := by
  cases l with
  | nil => rfl
  | cons x l => have := h x List.mem_cons_self; have e : (x : Int) = 0 := e; omega
theorem sT_err (k : Bool) (p : Nat) (v now node at_ next val turn : Int) : (sT k p v now node at_ next val turn).err = 0 ∧ (sT k p v now node at_ next val turn).over = false := by cases k <;> exact ⟨rfl, rfl⟩
/-- who takes: its exchange succeeds -/
theorem sk_take (hN : 1 ≤ N ∧ N ≤ 8) (hi : i ≤ 100000) (hG : SG N i ths ws l) {v now next val turn : Int} (hn : ths[n]? = some ⟨nx + 1, some (ci, sT k 13 v now (now % 64) (2 * (now % 64)) next val turn)⟩) (hk : (ci == 0) = k) (hv : k = true → v = v0) (ht : Tk N ws k now)
    (hx : now = vget ws (wi k) → next = vget ws (2 * (now % 64) + 1)) (hy : now = vget ws (wi k) → val = vget ws (2 * (now % 64))) (hp : turn = wrap64 ((now / 64 + 1) * 64 + next)) (he : vget ws (wi k) = now) :
    SkOut N i k v0 ths n nx ci ws l .no (vstep (sCode k) (sT k 13 v now (now % 64) (2 * (now % 64)) next val turn) ws) := by
  obtain ⟨L, c, S, rfl⟩ := hG
  have hl := S.len
  rw [s_13y _ _ _ _ _ _ _ _ _ (by omega) he]
  obtain ⟨rest, h1, h2, h3⟩ := heldL_set hn
  have hnow := arr_now S hN.2 hi ht.now
  obtain ⟨hd1, hd2⟩ := S.wdiv hN.2 k
  rw [he] at hd1 hd2
  have hne := ht.ne
  match hLk : L k with
  | [] => exfalso; rw [hLk] at hd2; have : now % 64 = 0 := hd2; omega
  | x :: r =>
    have hx0 : now % 64 = (x : Int) := by rw [hd2, hLk]; rfl
    have hch := S.ch k
    rw [hLk] at hch
    have hnx : next = headI r := by rw [hx he.symm, hx0]; exact hch.2.head
    have hr : ∀ y ∈ r, 1 ≤ y ∧ y ≤ N := fun y hy => S.mem k y (by rw [hLk]; exact List.mem_cons_of_mem _ hy)
    have hrb := headI_bd hr
    have hxb := S.mem k x (by rw [hLk]; exact List.mem_cons_self)
    have ht2 : turn = 64 * ((c k : Int) + 1) + headI r := by
      rw [hp, hnx, hd1]
      have := S.ci k
      rw [wsm (by omega) (by omega)]; omega
    rw [ht2]
    obtain ⟨S2, hvals⟩ := S.take hN.2 hLk
    have hho : holdOf k (sT k 13 v now (now % 64) (2 * (now % 64)) next val turn) = none := hold_no (.inl (by decide))
    have hhn : holdOf k (sT k 14 v now (now % 64) (2 * (now % 64)) next val 1) = some x := by rw [hold_yes (.inl ⟨rfl, by decide⟩), hx0]; rfl
    rw [holdP_c hk, hho] at h1
    have hperm : (x :: heldL ths).Perm (heldL (ths.set n ⟨nx + 1, some (ci, sT k 14 v now (now % 64) (2 * (now % 64)) next val 1)⟩)) := by
      refine List.Perm.trans ?_ (h2 _).symm
      rw [holdP_c hk, hhn]
      exact h1.cons x
    refine ⟨⟨0, oth_move hN.2 S ⟨hrb.1, by omega⟩, no_zero S n⟩, ?_⟩
    have hval := hy he.symm
    rw [hx0] at hval
    have hhd : Hd N k v0 v (now % 64) (2 * (now % 64)) := ⟨by omega, by omega, rfl, hv⟩
    cases k with
    | true =>
      refine ⟨.no, _, (sT_err ..).1, .inl ⟨(sT_err ..).2, .inl ⟨rfl, rfl⟩, .h14 14 (.inl rfl) v now (now % 64) (2 * (now % 64)) next val hhd (fun e => by cases e), _, _, S2.perm hperm, ?_⟩⟩
      show (valsOf ws (L false)).reverse = (valsOf _ (L false)).reverse
      rw [hvals (L false) fun y hy => (S.mem false y hy).1]
    | false =>
      refine ⟨.done val, (valsOf ws r).reverse, (sT_err ..).1, .inl ⟨(sT_err ..).2, .inr (.inr (.inl ⟨rfl, rfl, ?_, ?_⟩)), .h14 14 (.inl rfl) v now (now % 64) (2 * (now % 64)) next val hhd (fun _ => ?_), _, _, S2.perm hperm, ?_⟩⟩
      · rw [hLk, valsOf_cons, otell_stack, hval]
      · rw [hLk, valsOf_cons, otell_stack]
      · rw [hval]; exact S.pos x (by rw [hLk]; exact List.mem_cons_self)
      · show (valsOf ws r).reverse = (valsOf _ r).reverse
        rw [hvals r fun y hy => (hr y hy).1]
/-- who gives: its exchange succeeds -/
theorem sk_give (hN : 1 ≤ N ∧ N ≤ 8) (hi : i ≤ 100000) (h0 : 0 ≤ v0) (hG : SG N i ths ws l) {v now node at_ val turn : Int} (hn : ths[n]? = some ⟨nx + 1, some (ci, sT k 23 v now node at_ (now % 64) val turn)⟩) (hk : (ci == 0) = k) (hd : Hd N k v0 v node at_) (hx : k = false → 0 ≤ v) (hc : k = true → vget ws (2 * node) = v0) (hno : NowOk N ws (!k) now) (hs : vget ws (2 * node + 1) = now % 64)
    (hp : turn = (now / 64 + 1) * 64 + node) (he : vget ws (wi (!k)) = now) :
    SkOut N i k v0 ths n nx ci ws l (hph k v) (vstep (sCode k) (sT k 23 v now node at_ (now % 64) val turn) ws) := by
  obtain ⟨L, c, S, rfl⟩ := hG
  have hl := S.len
  rw [s_23y _ _ _ _ _ _ _ _ _ (by omega) he]
  obtain ⟨rest, h1, h2, h3⟩ := heldL_set hn
  obtain ⟨hd1, hd2⟩ := S.wdiv hN.2 (!k)
  rw [he] at hd1 hd2
  obtain ⟨x, rfl⟩ : ∃ x : Nat, node = (x : Int) := ⟨node.toNat, by have := hd.lo; omega⟩
  have hlo := hd.lo; have hhi := hd.hi
  have hho : holdOf k (sT k 23 v now (x : Int) at_ (now % 64) val turn) = some x := by rw [hold_yes (.inr (.inl ⟨by decide, by decide⟩))]; rfl
  rw [holdP_c hk, hho] at h1
  have hhn : holdOf k (sT k 24 v now (x : Int) at_ (now % 64) val 1) = none := hold_no (.inr (.inr (.inr ⟨rfl, by decide⟩)))
  have ht2 : turn = 64 * ((c (!k) : Int) + 1) + (x : Int) := by rw [hp, hd1]; omega
  rw [ht2]
  obtain ⟨S2, hvals⟩ := (S.perm h1).give hN.2 (j0 := !k) rfl (by rw [hs, hd2]) (fun e => by
    have e2 : k = true := by cases k <;> simp at e ⊢
    rw [hc e2]; exact h0)
  have hperm : rest.Perm (heldL (ths.set n ⟨nx + 1, some (ci, sT k 24 v now (x : Int) at_ (now % 64) val 1)⟩)) := by
    refine List.Perm.trans ?_ (h2 _).symm
    rw [holdP_c hk, hhn]
    exact List.Perm.refl _
  refine ⟨⟨0, oth_move hN.2 S ⟨by omega, by omega⟩, no_zero S n⟩, ?_⟩
  cases k with
  | true =>
    have hv := hd.v rfl
    subst hv
    refine ⟨.done v, (valsOf ws (L false)).reverse ++ [v], (sT_err ..).1, .inl ⟨(sT_err ..).2, .inr (.inl ⟨rfl, rfl, rfl, rfl⟩), .e24 24 (.inl rfl) v now (x : Int) at_ (now % 64) val (fun _ => rfl), _, _, S2.perm hperm, ?_⟩⟩
    show _ = (valsOf _ (x :: L false)).reverse
    rw [hvals (x :: L false) fun y hy => by
      rcases List.mem_cons.1 hy with rfl | hy
      · omega
      · exact (S.mem false y hy).1]
    rw [valsOf_cons, hc rfl]
  | false =>
    refine ⟨.done v, _, (sT_err ..).1, .inl ⟨(sT_err ..).2, .inl ⟨rfl, rfl⟩, .e24 24 (.inl rfl) v now (x : Int) at_ (now % 64) val (fun e => by cases e), _, _, S2.perm hperm, ?_⟩⟩
    show (valsOf ws (L false)).reverse = (valsOf _ (L false)).reverse
    rw [hvals (L false) fun y hy => (S.mem false y hy).1]
/-- who looks at the list to take from -/
theorem sk_look (hN : 1 ≤ N ∧ N ≤ 8) (hG : SG N i ths ws l) {v now node at_ next val turn : Int} (hn : ths[n]? = some ⟨nx + 1, some (ci, sT k 3 v now node at_ next val turn)⟩) (hk : (ci == 0) = k) (hv : k = true → v = v0) :
    SkOut N i k v0 ths n nx ci ws l .no (vstep (sCode k) (sT k 3 v now node at_ next val turn) ws) := by
  have hG' := hG
  obtain ⟨L, c, S, rfl⟩ := hG'
  have hl := S.len
  have hno := nowOk_load S hN.2 k
  have hd := (S.wdiv hN.2 k).2
  have hho : holdOf k (sT k 3 v now node at_ next val turn) = none := hold_no (.inl (by decide))
  have hhn : holdOf k (sT k 4 v (vget ws (wi k)) node at_ next val turn) = none := hold_no (.inl (by decide))
  by_cases hz : vget ws (wi k) % 64 = 0
  · have hLk : L k = [] := headI_nil (fun y hy => (S.mem k y hy).1) (by rw [← hd]; exact hz)
    refine sk_quiet hG hn hk (s_3 _ _ _ _ _ _ _ _ _ (by omega)) (sT_err ..).1 (sT_err ..).2 (by rw [hhn, hho]) (ph' := zph k (vget ws (wi k))) ?_ rfl (.a4 _ _ _ _ _ _ _ hv hno)
    cases k with
    | true =>
      refine .inr (.inr (.inr ⟨rfl, rfl, by unfold zph rph; rw [if_pos hz]; rfl, rfl, ?_, fun p hp => ?_⟩))
      · have := S.size
        rw [hLk] at this
        rw [List.length_reverse]
        unfold valsOf
        rw [List.length_map]
        simp at this
        omega
      · rw [hn] at hp; injection hp with hp; rw [← hp, holdP_c hk]; exact hho
    | false =>
      refine .inr (.inr (.inl ⟨rfl, rfl, ?_, ?_⟩))
      · unfold zph rph; rw [if_pos hz, hLk]; rfl
      · rw [hLk]; rfl
  · refine sk_quiet hG hn hk (s_3 _ _ _ _ _ _ _ _ _ (by omega)) (sT_err ..).1 (sT_err ..).2 (by rw [hhn, hho]) (ph' := zph k (vget ws (wi k))) (.inl ⟨?_, rfl⟩) rfl (.a4 _ _ _ _ _ _ _ hv hno)
    unfold zph; rw [if_neg hz]
/-- each step of a thread within a call -/
theorem sk_step (hN : 1 ≤ N ∧ N ≤ 8) (hi : i ≤ 100000) (h0 : 0 ≤ v0) (hG : SG N i ths ws l) (hn : ths[n]? = some ⟨nx + 1, some (ci, t)⟩) (hk : (ci == 0) = k) (hP : SkP N ws k v0 ph t) : SkOut N i k v0 ths n nx ci ws l ph (vstep (sCode k) t ws) := by
  have hG' := hG
  obtain ⟨L, c, S, hlv⟩ := hG'
  have hl := S.len
  have now_ := fun {j : Bool} {now : Int} (h : NowOk N ws j now) => arr_now S hN.2 hi h
  have q : ∀ {t' : Th}, vstep (sCode k) t ws = (t', ws) → t'.err = 0 ∧ t'.over = false → holdOf k t' = holdOf k t → SkP N ws k v0 ph t' → SkOut N i k v0 ths n nx ci ws l ph (vstep (sCode k) t ws) := fun hs he hh hP => sk_quiet hG hn hk hs he.1 he.2 hh (.inl ⟨rfl, rfl⟩) rfl hP
  cases hP with
  | i p hp =>
    rcases (show p = 0 ∨ p = 1 ∨ p = 2 by omega) with rfl | rfl | rfl
    · exact q (s_i0 ..) (by cases k <;> exact ⟨rfl, rfl⟩) (by rw [hold_i (by decide), hold_i (by decide)]) (.i 1 (by decide))
    · exact q (s_i1 ..) (by cases k <;> exact ⟨rfl, rfl⟩) (by rw [hold_i (by decide), hold_i (by decide)]) (.i 2 (by decide))
    · obtain ⟨v', hv, hs⟩ := s_i2 k v0 ws
      exact q hs (sT_err ..) (by rw [hold_i (by decide), hold_no (.inl (by decide))]) (.a3 v' 0 0 0 0 0 0 hv)
  | a3 v now node at_ next val turn hv => exact sk_look hN hG hn hk hv
  | a4 v now node at_ next val turn hv hno =>
    refine q (s_4 ..) (sT_err ..) (by rw [hold_no (.inl (by decide)), hold_no (.inl (by decide))]) ?_
    rw [(now_ hno).2.2.2.2.1]
    exact .a5 v now at_ next val turn hv hno
  | a5 v now at_ next val turn hv hno =>
    by_cases hz : now % 64 = 0
    · have e : zph k now = rph k := by unfold zph; rw [if_pos hz]
      rw [e] at q ⊢
      refine q (s_5z _ _ _ _ _ _ _ _ _ hz) (sT_err ..) (by rw [hold_no (.inr (.inl (by decide))), hold_no (.inl (by decide))]) (.z27 _ _ _ _ _ _ _)
    · have e : zph k now = .no := by unfold zph; rw [if_neg hz]
      rw [e] at q ⊢
      exact q (s_5n _ _ _ _ _ _ _ _ _ hz) (sT_err ..) (by rw [hold_no (.inl (by decide)), hold_no (.inl (by decide))]) (.a6 v now at_ next val turn hv ⟨hno, hz⟩)
  | z27 v now node at_ next val turn =>
    cases k with
    | true => exact sk_over hG hn hk (s_27t ..) rfl rfl (hold_no (.inr (.inl (by decide)))) (.inr ⟨rfl, rfl, rfl⟩)
    | false => exact q (s_27f ..) ⟨rfl, rfl⟩ (by rw [hold_no (.inr (.inl (by decide))), hold_no (.inr (.inl (by decide)))]) (.z28 rfl now node at_ next val turn)
  | z28 hkf now node at_ next val turn =>
    subst hkf
    exact sk_over hG hn hk (s_28f ..) rfl rfl (hold_no (.inr (.inl (by decide)))) (.inl ⟨-1, rfl, rfl⟩)
  | a6 v now at_ next val turn hv ht =>
    have h := now_ ht.now
    refine q (s_6 ..) (sT_err ..) (by rw [hold_no (.inl (by decide)), hold_no (.inl (by decide))]) ?_
    rw [show wrap64 (now % 64 * 2) = 2 * (now % 64) by rw [wsm (by omega) (by omega)]; omega]
    exact .a7 v now next val turn hv ht
  | a7 v now next val turn hv ht =>
    have h := now_ ht.now; have hne := ht.ne; have h2 := ht.now.2.1
    refine q (s_7 _ _ _ _ _ _ _ _ _ (2 * (now % 64) + 1) (wsm (by omega) (by omega)) (by omega) (by omega)) (sT_err ..) (by rw [hold_no (.inl (by decide)), hold_no (.inl (by decide))]) ?_
    exact .a8 v now _ val turn hv ht fun _ => rfl
  | a8 v now next val turn hv ht hx =>
    have h := now_ ht.now; have hne := ht.ne; have h2 := ht.now.2.1
    refine q (s_8 _ _ _ _ _ _ _ _ _ (2 * (now % 64)) (by rw [wsm (by omega) (by omega)]; omega) (by omega) (by omega)) (sT_err ..) (by rw [hold_no (.inl (by decide)), hold_no (.inl (by decide))]) ?_
    exact .a9 9 v now next _ turn hv ht hx (fun _ => rfl) (.inl rfl)
  | a9 p v now next val turn hv ht hx hy hp =>
    have h := now_ ht.now; have hne := ht.ne
    rcases hp with rfl | ⟨rfl, hp⟩ | ⟨rfl, hp⟩ | ⟨rfl, hp⟩ | ⟨rfl, hp⟩
    · exact q (s_9 ..) (sT_err ..) (by rw [hold_no (.inl (by decide)), hold_no (.inl (by decide))]) (.a9 10 v now next val _ hv ht hx hy (.inr (.inl ⟨rfl, h.2.2.2.2.2⟩)))
    · exact q (s_10 ..) (sT_err ..) (by rw [hold_no (.inl (by decide)), hold_no (.inl (by decide))]) (.a9 11 v now next val _ hv ht hx hy (.inr (.inr (.inl ⟨rfl, by rw [hp]; exact wsm (by omega) (by omega)⟩))))
    · exact q (s_11 ..) (sT_err ..) (by rw [hold_no (.inl (by decide)), hold_no (.inl (by decide))]) (.a9 12 v now next val _ hv ht hx hy (.inr (.inr (.inr (.inl ⟨rfl, by rw [hp]; exact wsm (by omega) (by omega)⟩)))))
    · exact q (s_12 ..) (sT_err ..) (by rw [hold_no (.inl (by decide)), hold_no (.inl (by decide))]) (.a9 13 v now next val _ hv ht hx hy (.inr (.inr (.inr (.inr ⟨rfl, by rw [hp]⟩)))))
    · by_cases he : vget ws (wi k) = now
      · exact sk_take hN hi hG hn hk hv ht hx hy hp he
      · exact q (s_13n _ _ _ _ _ _ _ _ _ (by omega) he) (sT_err ..) (by rw [hold_no (.inr (.inr (.inl ⟨rfl, rfl⟩))), hold_no (.inl (by decide))]) (.a14 v now _ _ next val hv)
  | a14 v now node at_ next val hv => exact q (s_14z ..) (sT_err ..) (by rw [hold_no (.inl (by decide)), hold_no (.inr (.inr (.inl ⟨rfl, rfl⟩)))]) (.a3 v now node at_ next val 0 hv)
  | h14 p hp v now node at_ next val hd hx =>
    have hlo := hd.lo; have hhi := hd.hi; have hat := hd.at_
    rcases hp with rfl | rfl
    · exact q (s_14n ..) (sT_err ..) (by rw [hold_yes (.inr (.inl ⟨by decide, by decide⟩)), hold_yes (.inl ⟨rfl, by decide⟩)]) (.h14 15 (.inr rfl) v now node at_ next val hd hx)
    · cases k with
      | true =>
        obtain ⟨x, rfl⟩ : ∃ x : Nat, node = (x : Int) := ⟨node.toNat, by omega⟩
        refine sk_store hN hG hn hk (x := x) (a := 2 * (x : Int)) (u := v) (.inl rfl) (s_15t _ _ _ _ _ _ _ _ _ (by rw [hat, wsm (by omega) (by omega)]; omega) (by omega) (by omega)) (sT_err ..).1 (sT_err ..).2 (hold_yes (.inr (.inl ⟨by decide, by decide⟩))) (hold_yes (.inr (.inl ⟨by decide, by decide⟩))) ?_
        exact .h16 v now _ at_ next val 1 hd (fun e => by cases e) fun _ => by rw [vget_vset_eq _ _ (by omega) (by omega)]; exact hd.v rfl
      | false => exact q (s_15f ..) (sT_err ..) (by rw [hold_yes (.inr (.inl ⟨by decide, by decide⟩)), hold_yes (.inr (.inl ⟨by decide, by decide⟩))]) (.h16 val now node at_ next val 1 ⟨hd.lo, hd.hi, hd.at_, fun e => by cases e⟩ hx fun e => by cases e)
  | h16 v now node at_ next val turn hd hx hc => exact q (s_16 _ _ _ _ _ _ _ _ _ (by omega)) (sT_err ..) (by rw [hold_yes (.inr (.inl ⟨by decide, by decide⟩)), hold_yes (.inr (.inl ⟨by decide, by decide⟩))]) (.h17 v _ node at_ next val turn hd hx hc (nowOk_load S hN.2 _))
  | h17 v now node at_ next val turn hd hx hc hno =>
    refine q (s_17 ..) (sT_err ..) (by rw [hold_yes (.inr (.inl ⟨by decide, by decide⟩)), hold_yes (.inr (.inl ⟨by decide, by decide⟩))]) ?_
    rw [(now_ hno).2.2.2.2.1]
    exact .h18 v now node at_ val turn hd hx hc hno
  | h18 v now node at_ val turn hd hx hc hno =>
    have hlo := hd.lo; have hhi := hd.hi; have hat := hd.at_
    obtain ⟨x, rfl⟩ : ∃ x : Nat, node = (x : Int) := ⟨node.toNat, by omega⟩
    have hwb := wi_bd (!k)
    refine sk_store hN hG hn hk (x := x) (a := 2 * (x : Int) + 1) (u := now % 64) (.inr rfl) (s_18 _ _ _ _ _ _ _ _ _ _ (by rw [hat]; exact wsm (by omega) (by omega)) (by omega) (by omega)) (sT_err ..).1 (sT_err ..).2 (hold_yes (.inr (.inl ⟨by decide, by decide⟩))) (hold_yes (.inr (.inl ⟨by decide, by decide⟩))) ?_
    exact .h19 19 v now _ at_ val turn hd hx (fun e => by rw [vget_vset_ne _ _ (by omega)]; exact hc e) (hno.other (.inl (by rw [vget_vset_ne _ _ (by omega)]))) (by rw [vget_vset_eq _ _ (by omega) (by omega)]) (.inl rfl)
  | h19 p v now node at_ val turn hd hx hc hno hs hp =>
    have h := now_ hno; have hlo := hd.lo; have hhi := hd.hi
    rcases hp with rfl | ⟨rfl, hp⟩ | ⟨rfl, hp⟩ | ⟨rfl, hp⟩ | ⟨rfl, hp⟩
    · exact q (s_19 ..) (sT_err ..) (by rw [hold_yes (.inr (.inl ⟨by decide, by decide⟩)), hold_yes (.inr (.inl ⟨by decide, by decide⟩))]) (.h19 20 v now node at_ val _ hd hx hc hno hs (.inr (.inl ⟨rfl, h.2.2.2.2.2⟩)))
    · exact q (s_20 ..) (sT_err ..) (by rw [hold_yes (.inr (.inl ⟨by decide, by decide⟩)), hold_yes (.inr (.inl ⟨by decide, by decide⟩))]) (.h19 21 v now node at_ val _ hd hx hc hno hs (.inr (.inr (.inl ⟨rfl, by rw [hp]; exact wsm (by omega) (by omega)⟩))))
    · exact q (s_21 ..) (sT_err ..) (by rw [hold_yes (.inr (.inl ⟨by decide, by decide⟩)), hold_yes (.inr (.inl ⟨by decide, by decide⟩))]) (.h19 22 v now node at_ val _ hd hx hc hno hs (.inr (.inr (.inr (.inl ⟨rfl, by rw [hp]; exact wsm (by omega) (by omega)⟩)))))
    · exact q (s_22 ..) (sT_err ..) (by rw [hold_yes (.inr (.inl ⟨by decide, by decide⟩)), hold_yes (.inr (.inl ⟨by decide, by decide⟩))]) (.h19 23 v now node at_ val _ hd hx hc hno hs (.inr (.inr (.inr (.inr ⟨rfl, by rw [hp]; exact wsm (by omega) (by omega)⟩)))))
    · by_cases he : vget ws (wi (!k)) = now
      · exact sk_give hN hi h0 hG hn hk hd hx hc hno hs hp he
      · exact q (s_23n _ _ _ _ _ _ _ _ _ (by omega) he) (sT_err ..) (by rw [hold_yes (.inr (.inr ⟨rfl, rfl⟩)), hold_yes (.inr (.inl ⟨by decide, by decide⟩))]) (.h24 v now node at_ _ val hd hx hc)
  | h24 v now node at_ next val hd hx hc => exact q (s_24z ..) (sT_err ..) (by rw [hold_yes (.inr (.inl ⟨by decide, by decide⟩)), hold_yes (.inr (.inr ⟨rfl, rfl⟩))]) (.h16 v now node at_ next val 0 hd hx hc)
  | e24 p hp v now node at_ next val hv =>
    rcases hp with rfl | rfl
    · exact q (s_24n ..) (sT_err ..) (by rw [hold_no (.inr (.inl (by decide))), hold_no (.inr (.inr (.inr ⟨rfl, by decide⟩)))]) (.e24 25 (.inr rfl) v now node at_ next val hv)
    · exact q (s_25 ..) (by cases k <;> exact ⟨rfl, rfl⟩) (by rw [hold_told (by decide), hold_no (.inr (.inl (by decide)))]) (.e26 v now node at_ next val hv)
  | e26 v now node at_ next val hv => exact sk_over hG hn hk (s_26 ..) (by cases k <;> rfl) (by cases k <;> rfl) (hold_told (by decide)) (.inl ⟨v, rfl, rfl⟩)
end
end

section
open Go.RowKit
structure SM (N : Nat) (m : Mach) : Prop where
  ws : m.words = swords N
  c0 : m.codes.getD 0 [] = spushCode
  c1 : m.codes.getD 1 [] = spopCode
  call : ∀ (n nx : Nat) (c : VCall), callOf m n nx = some c → c = ⟨1, []⟩ ∨ ∃ v, c = ⟨0, [v]⟩ ∧ 0 ≤ v
def SPc (N : Nat) (ws : List Int) (c : VCall) (ph : Ph) (t : Th) : Prop := (∃ v, c = ⟨0, [v]⟩ ∧ 0 ≤ v ∧ SkP N ws true v ph t) ∨ (c = ⟨1, []⟩ ∧ SkP N ws false 0 ph t)
theorem sk_hold {N : Nat} {ws : List Int} {k : Bool} {v0 : Int} {ph : Ph} {t : Th} {x : Nat} (h : SkP N ws k v0 ph t) (hx : holdOf k t = some x) : (k = true → ph = .no) ∧ (k = false → ∃ v, ph = .done v ∧ v ≠ -1) := by
  have key : ∀ {v : Int}, (k = false → 0 ≤ v) → (k = true → hph k v = .no) ∧ (k = false → ∃ v', hph k v = .done v' ∧ v' ≠ -1) := by
    intro v hv
    refine ⟨fun e => by subst e; rfl, fun e => ?_⟩
    have := hv e
    subst e
    exact ⟨v, rfl, by omega⟩
  have no : ∀ {p : Nat} {v now node at_ next val turn : Int}, (p < 14 ∨ 24 < p ∨ (p = 14 ∧ turn = 0) ∨ (p = 24 ∧ turn ≠ 0)) → holdOf k (sT k p v now node at_ next val turn) = some x → False := fun h1 h2 => by rw [hold_no h1] at h2; cases h2
  cases h with
  | i p hp => rw [hold_i hp] at hx; cases hx
  | a3 v now node at_ next val turn hv => exact (no (.inl (by decide)) hx).elim
  | a4 v now node at_ next val turn hv hn => exact (no (.inl (by decide)) hx).elim
  | a5 v now at_ next val turn hv hn => exact (no (.inl (by decide)) hx).elim
  | z27 v now node at_ next val turn => exact (no (.inr (.inl (by decide))) hx).elim
  | z28 hk now node at_ next val turn => exact (no (.inr (.inl (by decide))) hx).elim
  | a6 v now at_ next val turn hv ht => exact (no (.inl (by decide)) hx).elim
  | a7 v now next val turn hv ht => exact (no (.inl (by decide)) hx).elim
  | a8 v now next val turn hv ht hx2 => exact (no (.inl (by decide)) hx).elim
  | a9 p v now next val turn hv ht hx2 hy hp => exact (no (.inl (by omega)) hx).elim
  | a14 v now node at_ next val hv => exact (no (.inr (.inr (.inl ⟨rfl, rfl⟩))) hx).elim
  | h14 p hp v now node at_ next val hd hx2 => exact key hx2
  | h16 v now node at_ next val turn hd hx2 hc => exact key hx2
  | h17 v now node at_ next val turn hd hx2 hc hn => exact key hx2
  | h18 v now node at_ val turn hd hx2 hc hn => exact key hx2
  | h19 p v now node at_ val turn hd hx2 hc hn hs hp => exact key hx2
  | h24 v now node at_ next val hd hx2 hc => exact key hx2
  | e24 p hp v now node at_ next val hv => exact (no (by rcases hp with rfl | rfl; exact .inr (.inr (.inr ⟨rfl, by decide⟩)); exact .inr (.inl (by decide))) hx).elim
  | e26 v now node at_ next val hv => rw [hold_told (by decide)] at hx; cases hx
/-! ### who holds a node, by number -/
def hasP (ths : List PT) (a : Nat) : Bool := match ths[a]? with | some p => (holdP p).isSome | none => false
theorem idx_len : ∀ (n : Nat) (ths : List PT), ths.length = n → ((List.range n).filter (hasP ths)).length = (heldL ths).length
  | 0, ths, h => by
    have : ths = [] := List.eq_nil_of_length_eq_zero h
    subst this; rfl
  | n + 1, ths, h => by
    obtain ⟨l', p, rfl⟩ : ∃ l' p, ths = l' ++ [p] := ⟨ths.dropLast, ths.getLast (by intro e; rw [e] at h; simp at h), (List.dropLast_concat_getLast _).symm⟩
    have hl' : l'.length = n := by simpa using h
    rw [List.range_succ, List.filter_append, List.length_append]
    have e1 : (List.range n).filter (hasP (l' ++ [p])) = (List.range n).filter (hasP l') := by
      refine List.filter_congr fun a ha => ?_
      have ha := List.mem_range.1 ha
      unfold hasP
      rw [List.getElem?_append_left (by omega)]
    rw [e1, idx_len n l' hl']
    unfold heldL
    rw [List.filterMap_append, List.length_append]
    congr 1
    have e2 : hasP (l' ++ [p]) n = (holdP p).isSome := by
      unfold hasP
      rw [List.getElem?_append_right (by omega), hl', Nat.sub_self]; rfl
    cases hp : holdP p with
    | none => rw [hp] at e2; rw [List.filter_cons_of_neg (by rw [e2]; simp), List.filterMap_cons_none hp]; rfl
    | some y => rw [hp] at e2; rw [List.filter_cons_of_pos (by rw [e2]; rfl), List.filterMap_cons_some hp]; rfl
theorem filter_part {α : Type} (p : α → Bool) : ∀ l : List α, (l.filter p).length + (l.filter fun x => !p x).length = l.length
  | [] => rfl
  | x :: l => by
    have ih := filter_part p l
    cases hx : p x with
    | true => rw [List.filter_cons_of_pos hx, List.filter_cons_of_neg (by simp [hx]), List.length_cons, List.length_cons]; omega
    | false => rw [List.filter_cons_of_neg (by simp [hx]), List.filter_cons_of_pos (by simp [hx]), List.length_cons, List.length_cons]; omega
def codeAt (ths : List PT) (a : Nat) : Bool := match ths[a]? with | some p => (match p.cur with | some (ci, _) => ci == 0 | none => false) | none => false
/-- what every run of a stack keeps, and which calls are under way -/
def SGm (N : Nat) (m : Mach) (i : Nat) (ths : List PT) (ws l : List Int) : Prop := SG N i ths ws l ∧ ∀ (a nx ci : Nat) (t : Th), ths[a]? = some ⟨nx, some (ci, t)⟩ → 1 ≤ nx ∧ ∃ c, callOf m a (nx - 1) = some c ∧ ci = c.code
theorem sk_ref {N i : Nat} {m : Mach} {ths : List PT} {ws l : List Int} {n : Nat} (M : SM N m) (hG : SGm N m i ths ws l) (h : N = l.length + (heldL ths).length ∧ ∀ p, ths[n]? = some p → holdP p = none) : RefS N m (SPc N) n ths ws l := by
  have hp := filter_part (codeAt ths) ((List.range ths.length).filter (hasP ths))
  have hi := idx_len ths.length ths rfl
  have nd : ((List.range ths.length).filter (hasP ths)).Nodup := List.nodup_range.sublist List.filter_sublist
  have key : ∀ a, hasP ths a = true → a ≠ n ∧ ∃ nx t c y, ths[a]? = some ⟨nx + 1, some (c.code, t)⟩ ∧ callOf m a nx = some c ∧ holdOf (c.code == 0) t = some y ∧ codeAt ths a = isPut c := by
    intro a ha
    unfold hasP at ha
    cases hq : ths[a]? with
    | none => rw [hq] at ha; cases ha
    | some q =>
      rw [hq] at ha
      refine ⟨fun e => ?_, ?_⟩
      · subst e
        have ha : (holdP q).isSome = true := ha
        rw [h.2 q hq] at ha; cases ha
      · obtain ⟨nx, cur⟩ := q
        cases cur with
        | none => cases ha
        | some x =>
          obtain ⟨ci, t⟩ := x
          obtain ⟨h1, c, h2, rfl⟩ := hG.2 a nx ci t hq
          obtain ⟨nx, rfl⟩ : ∃ z, nx = z + 1 := ⟨nx - 1, by omega⟩
          have ha : (holdOf (c.code == 0) t).isSome = true := ha
          obtain ⟨y, hy⟩ := Option.isSome_iff_exists.1 ha
          exact ⟨nx, t, c, y, rfl, h2, hy, by unfold codeAt; rw [hq]; rfl⟩
  have put : ∀ {a nx : Nat} {t : Th} {c : VCall} {y : Nat}, callOf m a nx = some c → holdOf (c.code == 0) t = some y → (isPut c = true → ∀ ph, SPc N ws c ph t → ph = .no) ∧ (isPut c = false → ∀ ph, SPc N ws c ph t → ∃ v, ph = .done v ∧ v ≠ -1) := by
    intro a nx t c y hc hy
    refine ⟨fun e ph hP => ?_, fun e ph hP => ?_⟩
    · rcases hP with ⟨v, rfl, h1, h2⟩ | ⟨rfl, h2⟩
      · exact (sk_hold h2 hy).1 rfl
      · cases e
    · rcases hP with ⟨v, rfl, h1, h2⟩ | ⟨rfl, h2⟩
      · cases e
      · exact (sk_hold h2 hy).2 rfl
  refine ⟨_, _, nd.sublist List.filter_sublist, nd.sublist List.filter_sublist, Nat.le_of_eq (show N = l.length + (((List.range ths.length).filter (hasP ths)).filter (codeAt ths)).length + (((List.range ths.length).filter (hasP ths)).filter fun x => !codeAt ths x).length by omega), fun a ha => ?_, fun a ha => ?_⟩
  · obtain ⟨h1, h2⟩ := List.mem_filter.1 ha
    obtain ⟨h3, nx, t, c, y, h4, h5, h6, h7⟩ := key a (List.mem_filter.1 h1).2
    rw [h7] at h2
    exact ⟨h3, nx, t, c, h4, h5, h2, (put h5 h6).1 h2⟩
  · obtain ⟨h1, h2⟩ := List.mem_filter.1 ha
    obtain ⟨h3, nx, t, c, y, h4, h5, h6, h7⟩ := key a (List.mem_filter.1 h1).2
    rw [h7] at h2
    have h2 : isPut c = false := by simpa using h2
    exact ⟨h3, nx, t, c, h4, h5, h2, (put h5 h6).2 h2⟩
theorem SGm.th {N : Nat} {m : Mach} {i j : Nat} {ths : List PT} {ws ws' l l' : List Int} (h : SGm N m i ths ws l) {n : Nat} {p : PT} (hS : SG N j (ths.set n p) ws' l') (hp : ∀ nx ci t, p = ⟨nx, some (ci, t)⟩ → 1 ≤ nx ∧ ∃ c, callOf m n (nx - 1) = some c ∧ ci = c.code) : SGm N m j (ths.set n p) ws' l' := by
  refine ⟨hS, fun a nx ci t ha => ?_⟩
  rcases get_set ha with ⟨rfl, e⟩ | ⟨_, ha⟩
  · exact hp nx ci t e.symm
  · exact h.2 a nx ci t ha
theorem SkOut.use {N i : Nat} {m : Mach} {k : Bool} {v0 : Int} {ths : List PT} {n nx : Nat} {c : VCall} {ws l : List Int} {ph : Ph} {r : Th × List Int} (M : SM N m) (hG : SGm N m i ths ws l) (hc : callOf m n nx = some c) (hput : isPut c = k) (harg : argV c = if k then v0 else 0) (hP : ∀ ph' ws' t', SkP N ws' k v0 ph' t' → SPc N ws' c ph' t') (h : SkOut N i k v0 ths n nx c.code ws l ph r) :
    (∀ n' nx' t' c' ph'', n' ≠ n → ths[n']? = some ⟨nx' + 1, some (c'.code, t')⟩ → callOf m n' nx' = some c' → SPc N ws c' ph'' t' → SPc N r.2 c' ph'' t') ∧
    ∃ ph' l', r.1.err = 0 ∧
      ((r.1.over = false ∧ OEffS false (RefS N m (SPc N) n ths ws l) (isPut c) (argV c) ph l ph' l' ∧ SPc N r.2 c ph' r.1 ∧ SGm N m (i + 1) (ths.set n ⟨nx + 1, some (c.code, r.1)⟩) r.2 l') ∨
       (r.1.over = true ∧ ph' = ph ∧ l' = l ∧ OTold (isPut c) ph' r.1.told ∧ SGm N m (i + 1) (ths.set n ⟨nx + 1, none⟩) r.2 l')) := by
  obtain ⟨⟨z, ho, hz⟩, ph', l', e1, e2⟩ := h
  refine ⟨fun n' nx' t' c' ph'' hne hq hc' hP' => ?_, ph', l', e1, ?_⟩
  · have hh : ∀ y, holdOf (c'.code == 0) t' = some y → y ≠ z := fun y hy => hz n' _ y hne hq hy
    rcases hP' with ⟨v, rfl, h1, h2⟩ | ⟨rfl, h2⟩
    · exact .inl ⟨v, rfl, h1, h2.other ho hh⟩
    · exact .inr ⟨rfl, h2.other ho hh⟩
  · rw [hput, harg]
    rcases e2 with ⟨f1, f2, f3, f4⟩ | ⟨f1, f2, f3, f4, f5⟩
    · refine .inl ⟨f1, f2.imp fun _ hF => sk_ref M hG hF, hP _ _ _ f3, hG.th f4 fun nx' ci t e => ?_⟩
      injection e with e1 e2; injection e2 with e2; injection e2 with e2 e3
      subst e1 e2
      exact ⟨by omega, c, by rw [Nat.add_sub_cancel]; exact hc, rfl⟩
    · exact .inr ⟨f1, f2, f3, f4, hG.th f5 fun nx' ci t e => by injection e with _ e; cases e⟩
theorem stack_obj {N : Nat} {m : Mach} (hN : 1 ≤ N ∧ N ≤ 8) (M : SM N m) : ObjMS false N m 100000 (SPc N) (SGm N m) where
  call := fun n nx c h => by
    rcases M.call n nx c h with rfl | ⟨v, rfl, h1⟩
    · exact .inr ⟨rfl, rfl⟩
    · exact .inl ⟨rfl, v, rfl, h1⟩
  up := fun i ths ws l h => by
    obtain ⟨⟨L, c, S, h1⟩, h2⟩ := h
    exact ⟨⟨L, c, S.up, h1⟩, h2⟩
  beg := fun i ths ws l n nx c hG hn hc => by
    have hset : ∀ t, holdOf (c.code == 0) t = none → SG N i (ths.set n ⟨nx + 1, some (c.code, t)⟩) ws l := fun t ht => by
      obtain ⟨⟨L, cc, S, h1⟩, _⟩ := hG
      obtain ⟨rest, g1, g2, _⟩ := heldL_set hn
      refine ⟨L, cc, S.perm (g1.trans ?_), h1⟩
      refine List.Perm.trans ?_ (g2 _).symm
      have e1 : holdP ⟨nx + 1, some (c.code, t)⟩ = none := ht
      have e2 : holdP ⟨nx, none⟩ = none := rfl
      rw [e1, e2]
    have hth : ∀ t, holdOf (c.code == 0) t = none → SGm N m i (ths.set n ⟨nx + 1, some (c.code, t)⟩) ws l := fun t ht => hG.th (hset t ht) fun nx' ci t' e => by
      injection e with e1 e2; injection e2 with e2; injection e2 with e2 e3
      subst e1 e2
      exact ⟨by omega, c, by rw [Nat.add_sub_cancel]; exact hc, rfl⟩
    rcases M.call n nx c hc with rfl | ⟨v, rfl, h1⟩
    · have e : vbegin (m.codes.getD 1 []).length [] = sI false 0 0 := by rw [M.c1]; rfl
      refine ⟨.inr ⟨rfl, ?_⟩, ?_⟩
      · show SkP N ws false 0 .no (vbegin (m.codes.getD 1 []).length [])
        rw [e]; exact .i 0 (by decide)
      · refine hth _ ?_
        show holdOf false (vbegin (m.codes.getD 1 []).length []) = none
        rw [e]; exact hold_i (by decide)
    · have e : vbegin (m.codes.getD 0 []).length [v] = sI true 0 v := by rw [M.c0]; rfl
      refine ⟨.inl ⟨v, rfl, h1, ?_⟩, ?_⟩
      · show SkP N ws true v .no (vbegin (m.codes.getD 0 []).length [v])
        rw [e]; exact .i 0 (by decide)
      · refine hth _ ?_
        show holdOf true (vbegin (m.codes.getD 0 []).length [v]) = none
        rw [e]; exact hold_i (by decide)
  act := fun i ths ws l n nx t c ph hi hG hn hc hP => by
    rcases hP with ⟨v, rfl, h1, h2⟩ | ⟨rfl, h2⟩
    · have e : m.codes.getD (⟨0, [v]⟩ : VCall).code [] = sCode true := M.c0
      rw [e]
      exact (sk_step hN (by omega) h1 hG.1 hn rfl h2).use M hG hc rfl rfl (fun ph' ws' t' h => .inl ⟨v, rfl, h1, h⟩)
    · have e : m.codes.getD (⟨1, []⟩ : VCall).code [] = sCode false := M.c1
      rw [e]
      exact (sk_step hN (by omega) (Int.le_refl 0) hG.1 hn rfl h2).use M hG hc rfl rfl (fun ph' ws' t' h => .inr ⟨rfl, h⟩)
theorem stack_start {N : Nat} {m : Mach} (hN : 1 ≤ N ∧ N ≤ 8) (M : SM N m) : SGm N m 0 (pinit m).ths m.words [] := by
  have hth : ∀ (a : Nat) (p : PT), (pinit m).ths[a]? = some p → p = ⟨0, none⟩ := fun a p h => by
    unfold pinit at h
    simp only [List.getElem?_replicate] at h
    split at h
    · injection h with h; exact h.symm
    · cases h
  have hheld : heldL (pinit m).ths = [] := by
    unfold heldL
    rw [List.filterMap_eq_nil_iff]
    intro p hp
    obtain ⟨a, ha⟩ := List.getElem?_of_mem hp
    rw [hth a p ha]; rfl
  refine ⟨?_, fun a nx ci t h => ?_⟩
  · obtain ⟨T, F, a, b, h, ha, hb, hl⟩ := swords_0 hN
    have ha : a = 0 := by omega
    have hb : b = 0 := by omega
    subst ha hb
    have hT : T = [] := by
      have h1 : (valsOf (swords N) T).reverse.length = 0 := by rw [← hl]; rfl
      rw [List.length_reverse] at h1
      unfold valsOf at h1
      rw [List.length_map] at h1
      exact List.eq_nil_of_length_eq_zero h1
    subst hT
    rw [M.ws]
    unfold SG
    rw [hheld]
    refine ⟨fun j => if j then F else [], fun _ => 0, ⟨h.len, fun j => ?_, List.nodup_nil, fun j x hx => ?_, (fun j x hx hm => by cases hm), fun j x hx => ?_, (fun x hx => by cases hx), ?_, fun j => Nat.le_refl _, fun j => ?_, fun j => ?_, (fun x hx => by cases hx)⟩, rfl⟩
    · cases j
      · exact List.nodup_nil
      · exact h.nd
    · cases j
      · cases hx
      · exact fun hm => by cases hm
    · cases j
      · cases hx
      · exact h.mem x hx
    · have := h.size; simpa using this
    · cases j
      · exact h.w0
      · exact h.w1
    · cases j
      · exact h.cT
      · exact h.cF
  · have := hth a _ h
    injection this with _ e; cases e
theorem stack_play {N : Nat} {m : Mach} (hN : 1 ≤ N ∧ N ≤ 8) (M : SM N m) (l : List Nat) (hl : l.length ≤ 100000) :
    (∃ H s, SGm N m l.length (play m l).ths (play m l).words s ∧ LI false N m (SPc N (play m l).words) l.length (play m l).ths (doings (play m l).evs) H s) ∧ SeqDs (doings (play m l).evs) ∧ NoErr (play m l).evs := by
  have h := (slog_keeps (stack_obj hN M) l hl).withSeq.play ⟨⟨[], [], stack_start hN M, rfl, by simp, fun x hx => by simp at hx, fun k d h => by simp at h, fun k d e h => by simp at h, by simp, fun n nx ci t h => ?_⟩, fun j k d d' h => by simp at h⟩
  · exact ⟨h.1.1, h.1.2, h.2⟩
  · unfold pinit at h
    simp only [List.getElem?_replicate] at h
    split at h
    · injection h with h; injection h with _ h; cases h
    · cases h
theorem omach_sm {N off calls : Nat} {kinds : List Bool} : SM N (omach (swords N) spushCode spopCode off kinds calls) where
  ws := rfl
  c0 := rfl
  c1 := rfl
  call := fun n nx c hc => by
    obtain ⟨h1, h2, rfl⟩ := ocallOf hc
    unfold ocall
    split
    · exact .inl rfl
    · exact .inr ⟨_, rfl, by omega⟩
end
end Go.Proofs.YtbcjgnigdddlkaaDoor
