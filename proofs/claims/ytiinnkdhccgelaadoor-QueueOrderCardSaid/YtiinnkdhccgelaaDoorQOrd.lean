/-
  QueueOrder: its plain law.
-/
import Derived.Test.YtiinnkdhccgelaaDoorQObj
namespace Go.Proofs.YtiinnkdhccgelaaDoor
open Go.RowKit
set_option linter.unusedVariables false

theorem pair_split {α : Type} {R : α → α → Prop} {l : List α} (h : l.Pairwise R) {a b : Nat} {x y : α} (ha : l[a]? = some x) (hb : l[b]? = some y) (hab : a < b) : R x y := by
  obtain ⟨h1, h2⟩ := List.getElem?_eq_some_iff.1 ha
  obtain ⟨h3, h4⟩ := List.getElem?_eq_some_iff.1 hb
  have := List.pairwise_iff_getElem.1 h a b h1 h3 hab
  rw [h2, h4] at this
  exact this
theorem filter_pair {α : Type} {R : α → α → Prop} {p : α → Bool} : ∀ {l : List α}, (l.filter p).Pairwise R → l.Pairwise fun x y => p x = true → p y = true → R x y
  | [], _ => List.Pairwise.nil
  | z :: l, h => by
    rw [List.filter_cons] at h
    split at h
    · rw [List.pairwise_cons] at h
      refine List.pairwise_cons.2 ⟨fun y hy _ hp => h.1 y (List.mem_filter.2 ⟨hy, hp⟩), filter_pair h.2⟩
    · rename_i hz
      exact List.pairwise_cons.2 ⟨fun y hy hp => absurd hp hz, filter_pair h⟩
/-- the machine of QueueOrder -/
def okinds (n : Nat) : List Bool := (List.range n).map fun i => i % 3 == 2
theorem okinds_at {n i : Nat} (h : i < n) : (okinds n).getD i false = (i % 3 == 2) := by
  unfold okinds
  rw [List.getD_eq_getElem?_getD, List.getElem?_map, List.getElem?_range h]; rfl
theorem ocall_ord {n i : Nat} (h : i < n) : ocall 0 (okinds n) i = if i % 3 = 2 then ⟨1, []⟩ else ⟨0, [(i : Int)]⟩ := by
  unfold ocall
  rw [okinds_at h]
  by_cases e : i % 3 = 2
  · rw [if_pos (by simp [e]), if_pos e]
  · rw [if_neg (by simp [e]), if_neg e]; simp
abbrev qordM (N : Nat) : Mach := omach [0] (qputCode N) qtakeCode 0 (okinds 45) 45
/-- what is put behind another one of the same thread is more -/
def UpV (u v : Int) : Prop := u ≠ v ∧ (u % 3 = v % 3 → u < v)
structure QOrd (ds : List Dg) : Prop where
  told : ∀ (k : Nat) (d : Dg) (e : Nat), ds[k]? = some d → d.t = 2 → d.e = some e → ∃ v, d.told = [v] ∧ (v = -1 ∨ (0 ≤ v ∧ v ≤ 44 ∧ v % 3 ≠ 2))
  ord : ∀ (j k : Nat) (d d' : Dg) (e e' : Nat) (v v' : Int), j < k → ds[j]? = some d → ds[k]? = some d' → d.t = 2 → d'.t = 2 → d.e = some e → d'.e = some e' → d.told = [v] → d'.told = [v'] → v ≠ -1 → v' ≠ -1 → UpV v v'
  call : ∀ (k : Nat) (d : Dg), ds[k]? = some d → d.t < 3 ∧ d.c < 15
theorem queue_order {N : Nat} (hN : 1 ≤ N ∧ N ≤ 8) (l : List Nat) : QOrd (doings (play (qordM N) l).evs) := by
  obtain ⟨⟨H, s, L⟩, hS, _⟩ := queue_play hN (omach_qm (N := N) (off := 0) (calls := 45) (kinds := okinds 45) (by decide)) l
  have uniq := (play_di (qordM N) l).uniq
  generalize doings (play (qordM N) l).evs = ds at *
  have hcall : ∀ (k : Nat) (d : Dg), ds[k]? = some d → d.t < 3 ∧ 3 * d.c + d.t < 45 ∧ callOf (qordM N) d.t d.c = some (if d.t = 2 then ⟨1, []⟩ else ⟨0, [((3 * d.c + d.t : Nat) : Int)]⟩) := by
    intro k d hk
    obtain ⟨c, h1, _⟩ := L.call k d hk
    obtain ⟨h2, h3, h4⟩ := ocallOf h1
    refine ⟨h2, h3, ?_⟩
    rw [h1, h4, ocall_ord h3]
    by_cases e : d.t = 2
    · rw [if_pos e, if_pos (by omega)]
    · rw [if_neg e, if_neg (by omega)]
  -- an effect, and its call
  have hent : ∀ x ∈ H, ∃ d, ds[x.k]? = some d ∧ d.t < 3 ∧ 3 * d.c + d.t < 45 ∧ ((x.put = false ∧ d.t = 2) ∨ (x.put = true ∧ d.t ≠ 2 ∧ x.v = ((3 * d.c + d.t : Nat) : Int))) ∧ ∀ e, d.e = some e → d.told = [if x.put then 1 else x.v] := by
    intro x hx
    obtain ⟨d, c, h1, h2, h3, h4, _, h6⟩ := L.ent x hx
    obtain ⟨a1, a2, a3⟩ := hcall x.k d h1
    refine ⟨d, h1, a1, a2, ?_, h6⟩
    rw [a3] at h2
    injection h2 with h2
    by_cases e : d.t = 2
    · rw [if_pos e] at h2
      subst h2
      exact .inl ⟨h3, e⟩
    · rw [if_neg e] at h2
      subst h2
      have hp : x.put = true := h3
      exact .inr ⟨hp, e, h4 hp⟩
  have hv : ∀ x ∈ H, x.put = true → x.v ≠ -1 := fun x hx hp => by
    obtain ⟨d, _, _, _, h, _⟩ := hent x hx
    rcases h with ⟨h, _⟩ | ⟨_, _, h⟩
    · rw [hp] at h; cases h
    · rw [h]; omega
  have hq := oseq_queue L.seq (by simp) hv
  rw [List.nil_append] at hq
  -- what is put
  have hput : (putsV H).Pairwise UpV := by
    unfold putsV
    rw [List.pairwise_map]
    have hnd : H.Pairwise fun x y => x.k ≠ y.k := by have := L.nd; rw [List.Nodup, List.pairwise_map] at this; exact this
    refine ((L.rt.and hnd).sublist List.filter_sublist).imp_of_mem fun {x y} hx hy hxy => ?_
    obtain ⟨hx1, hx2⟩ := List.mem_filter.1 hx
    obtain ⟨hy1, hy2⟩ := List.mem_filter.1 hy
    obtain ⟨dx, ax, bx, cx, ex, _⟩ := hent x hx1
    obtain ⟨dy, ay, by_, cy, ey, _⟩ := hent y hy1
    rcases ex with ⟨ex, _⟩ | ⟨_, fx, ex⟩
    · rw [hx2] at ex; cases ex
    rcases ey with ⟨ey, _⟩ | ⟨_, fy, ey⟩
    · rw [hy2] at ey; cases ey
    have hne : ¬ (dx.t = dy.t ∧ dx.c = dy.c) := fun h => hxy.2 (uniq _ _ dx dy ax ay h.1 h.2)
    have hlt : dx.t = dy.t → dx.c < dy.c := fun h => by
      rcases Nat.lt_trichotomy dx.c dy.c with h1 | h1 | h1
      · exact h1
      · exact absurd ⟨h, h1⟩ hne
      · obtain ⟨_, e, he, hlt⟩ := hS _ _ dy dx ay ax h.symm h1
        have := hxy.1 dx dy e ax ay he
        omega
    rw [ex, ey]
    refine ⟨fun e => hne ?_, fun e => ?_⟩
    · omega
    · have ht : dx.t = dy.t := by omega
      have := hlt ht
      omega
  have htake : (takesV H).Pairwise UpV := by
    rw [hq] at hput
    exact (List.pairwise_append.1 hput).1
  have hmem : ∀ v ∈ takesV H, 0 ≤ v ∧ v ≤ 44 ∧ v % 3 ≠ 2 := by
    intro v hvm
    have : v ∈ putsV H := by rw [hq]; exact List.mem_append_left _ hvm
    obtain ⟨x, hx, rfl⟩ := List.mem_map.1 this
    obtain ⟨hx1, hx2⟩ := List.mem_filter.1 hx
    obtain ⟨d, _, h1, h2, h3, _⟩ := hent x hx1
    rcases h3 with ⟨h3, _⟩ | ⟨_, h3, h4⟩
    · rw [hx2] at h3; cases h3
    · rw [h4]; omega
  have hfp := filter_pair (show (H.filter fun x => !x.put && x.v != -1).Pairwise fun x y => UpV x.v y.v from by unfold takesV at htake; rw [List.pairwise_map] at htake; exact htake)
  -- a take that has ended
  have hend : ∀ (k : Nat) (d : Dg) (e : Nat), ds[k]? = some d → d.t = 2 → d.e = some e → ∃ x ∈ H, x.k = k ∧ x.put = false ∧ d.told = [x.v] := by
    intro k d e hk ht he
    rcases L.cov k d e hk he with ⟨x, hx, rfl⟩ | ⟨h1, _⟩
    · obtain ⟨d', h1, _, _, h4, h5⟩ := hent x hx
      rw [hk] at h1; injection h1 with h1; subst h1
      rcases h4 with ⟨h4, _⟩ | ⟨_, h4, _⟩
      · refine ⟨x, hx, rfl, h4, ?_⟩
        have := h5 e he
        rw [h4] at this
        exact this
      · exact absurd ht h4
    · exfalso
      unfold putD at h1
      rw [(hcall k d hk).2.2, if_pos ht] at h1
      cases h1
  refine ⟨fun k d e hk ht he => ?_, fun j k d d' e e' v v' hjk hj hk ht ht' he he' htd htd' hv1 hv2 => ?_, fun k d hk => ?_⟩
  · obtain ⟨x, hx, _, hp, h1⟩ := hend k d e hk ht he
    refine ⟨x.v, h1, ?_⟩
    by_cases e1 : x.v = -1
    · exact .inl e1
    · exact .inr (hmem _ (List.mem_map.2 ⟨x, List.mem_filter.2 ⟨hx, by simp [hp, e1]⟩, rfl⟩))
  · obtain ⟨x, hx, hxk, hxp, hx1⟩ := hend j d e hj ht he
    obtain ⟨y, hy, hyk, hyp, hy1⟩ := hend k d' e' hk ht' he'
    rw [htd] at hx1; injection hx1 with hx1
    rw [htd'] at hy1; injection hy1 with hy1
    subst hx1 hy1
    obtain ⟨a, ha⟩ := List.getElem?_of_mem hx
    obtain ⟨b, hb⟩ := List.getElem?_of_mem hy
    have hab : a < b := by
      rcases Nat.lt_trichotomy a b with h | h | h
      · exact h
      · subst h
        rw [ha] at hb; injection hb with hb; subst hb
        omega
      · exfalso
        have h2 := pair_split L.rt hb ha h d' d e (by rw [hyk]; exact hk) (by rw [hxk]; exact hj) he
        have hcc : d.c < d'.c := by
          rcases Nat.lt_trichotomy d.c d'.c with h3 | h3 | h3
          · exact h3
          · have := uniq j k d d' hj hk (by rw [ht, ht']) h3; omega
          · have := (hS k j d' d hk hj (by rw [ht, ht']) h3).1; omega
        obtain ⟨_, e2, he2, hlt⟩ := hS j k d d' hj hk (by rw [ht, ht']) hcc
        rw [he] at he2; injection he2 with he2
        omega
    exact pair_split hfp ha hb hab (by simp [hxp, hv1]) (by simp [hyp, hv2])
  · obtain ⟨h1, h2, _⟩ := hcall k d hk
    exact ⟨h1, by omega⟩
end Go.Proofs.YtiinnkdhccgelaaDoor
