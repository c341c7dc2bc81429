/-
  CountAll's plain law.
-/
import Derived.Test.YtnoinojhocicjaaDoorCountMach
import Derived.Test.YtnoinojhocicjaaDoorCountLive
namespace Go.Proofs.YtnoinojhocicjaaDoor
open Go.RowKit
set_option linter.unusedVariables false

/-- as many calls as its threads have begun -/
theorem sum_next : ∀ (ths : List PT) (n : Nat) (p p' : PT), ths[n]? = some p → ((ths.set n p').map (·.next)).sum + p.next = (ths.map (·.next)).sum + p'.next
  | [], n, p, p', h => by simp at h
  | x :: ths, 0, p, p', h => by
    simp only [List.getElem?_cons_zero, Option.some.injEq] at h
    subst h
    simp only [List.set_cons_zero, List.map_cons, List.sum_cons]; omega
  | x :: ths, n + 1, p, p', h => by
    rw [List.getElem?_cons_succ] at h
    have ih := sum_next ths n p p' h
    simp only [List.set_cons_succ, List.map_cons, List.sum_cons]; omega
theorem len_keeps (m : Mach) (l : List Nat) (hm : CntM m) (hl : l.length ≤ 6000) : PKeeps m l (fun i ths ws ds => KI m i ths ws ds ∧ ds.length = (ths.map (·.next)).sum) where
  idle := fun i s n hi hD h hn => ⟨(count_keeps hm l hl).idle i s n hi hD h.1 hn, h.2⟩
  begin_ := by
    intro i s n nx calls c hi hD h hn hc hcc
    refine ⟨(count_keeps hm l hl).begin_ i s n nx calls c hi hD h.1 hn hc hcc, ?_⟩
    have := sum_next s.ths n _ ⟨nx + 1, some (c.code, vbegin (m.codes.getD c.code []).length c.args)⟩ hn
    simp only at this
    rw [List.length_append, List.length_singleton, h.2]; omega
  cont := by
    intro i s n nx ci t hi hD h hn hov
    refine ⟨(count_keeps hm l hl).cont i s n nx ci t hi hD h.1 hn hov, ?_⟩
    have := sum_next s.ths n _ ⟨nx, some (ci, (vstep (m.codes.getD ci []) t s.words).1)⟩ hn
    simp only at this
    rw [h.2]; omega
  fin_ := by
    intro i s n nx ci t k d hi hD h hn hov hk ht hdc he htold
    obtain ⟨h1, h2⟩ := (count_keeps hm l hl).fin_ i s n nx ci t k d hi hD h.1 hn hov hk ht hdc he htold
    refine ⟨⟨h1, ?_⟩, h2⟩
    have := sum_next s.ths n _ ⟨nx, none⟩ hn
    simp only at this
    rw [List.length_set, h.2]; omega
theorem len_play {m : Mach} (hm : CntM m) (l : List Nat) (hl : l.length ≤ 6000) : (doings (play m l).evs).length = ((play m l).ths.map (·.next)).sum := by
  refine ((len_keeps m l hm hl).play ⟨count_start hm, ?_⟩).1.2
  have : ∀ n, ((List.replicate n (⟨0, none⟩ : PT)).map (·.next)).sum = 0 := by
    intro n
    induction n with
    | zero => rfl
    | succ n ih => rw [List.replicate_succ, List.map_cons, List.sum_cons, ih]
  unfold pinit
  simp only
  rw [this]; rfl
theorem countThs_memB (xs : List Int) : ∀ (k j : Nat) (c : VCall), c ∈ countThs xs k j → OkCall c
  | 0, _, c, h => by cases h
  | k + 1, j, c, h => by
    unfold countThs at h
    split at h
    · rcases List.mem_append.1 h with h | h
      · exact countThs_memB xs k j c h
      · rw [List.mem_singleton.1 h]
        have hb : cnum xs k ≤ 5 := by
          unfold cnum
          split
          · rename_i x _
            have := pk_lt x 6 (by decide); omega
          · omega
        unfold ccall
        split
        · exact .inl rfl
        · exact .inr ⟨_, rfl, by omega, by omega⟩
    · exact countThs_memB xs k j c h
/-- the machine, with one thread more that gets -/
def countMA (xs : List Int) : Mach := ⟨[0], [addCode, getCode], [countThs xs 9 0, countThs xs 9 1, countThs xs 9 2, [⟨1, []⟩]]⟩
theorem countThs_three (xs : List Int) (j : Nat) (hj : j < 3) : (countThs xs 9 j).length = 3 := by
  match j, hj with
  | 0, _ => rfl
  | 1, _ => rfl
  | 2, _ => rfl
theorem countMA_ok (xs : List Int) : CntM (countMA xs) := by
  refine ⟨rfl, rfl, rfl, fun n calls nx c hc hcc => ?_⟩
  have hmem := List.mem_of_getElem? hcc
  unfold countMA at hc
  match n, hc with
  | 0, hc => injection hc with hc; subst hc; exact countThs_memB xs 9 0 c hmem
  | 1, hc => injection hc with hc; subst hc; exact countThs_memB xs 9 1 c hmem
  | 2, hc => injection hc with hc; subst hc; exact countThs_memB xs 9 2 c hmem
  | 3, hc => injection hc with hc; subst hc; rw [List.mem_singleton.1 hmem]; exact .inl rfl
  | n + 4, hc => simp at hc
/-- the schedule: whatever, then each alone, then the one that gets -/
def allS (a : List Nat) : List Nat := a ++ List.replicate 200 0 ++ List.replicate 200 1 ++ List.replicate 200 2
theorem allS_len (a : List Nat) : (allS a).length = a.length + 600 := by unfold allS; simp only [List.length_append, List.length_replicate]
/-- the calls of the whole run -/
structure AllR (m : Mach) (ds : List Dg) (v : Int) : Prop where
  len : ds.length = 10
  told : ∀ (k : Nat) (d : Dg), ds[k]? = some d → ∃ e o, d.e = some e ∧ d.told = [o] ∧ 0 ≤ o ∧ o ≤ v
  call : ∀ (k : Nat) (d : Dg), ds[k]? = some d → ∃ c, callOf m d.t d.c = some c ∧ OkCall c
  dis : ∀ (j k : Nat) (d d' : Dg), j ≠ k → ds[j]? = some d → ds[k]? = some d' → 1 ≤ argOf m d → 1 ≤ argOf m d' → d.told ≠ d'.told
  sum : v = (ds.map (argOf m)).sum
  v0 : 0 ≤ v ∧ v ≤ 30000
  last : ∀ (k : Nat) (d : Dg), ds[k]? = some d → d.t = 3 → d.told = [v]
  has : ∃ (k : Nat) (d : Dg), ds[k]? = some d ∧ d.t = 3
theorem idle_more {m : Mach} {s : PS} {n nx : Nat} {calls : List VCall} (h1 : s.ths[n]? = some ⟨nx, none⟩) (h2 : m.threads[n]? = some calls) (h3 : calls[nx]? = none) : ∀ (k i : Nat), prun m i (List.replicate k n) s = s
  | 0, i => rfl
  | k + 1, i => by rw [List.replicate_succ, prun, mstep_idle h1 h2 h3]; exact idle_more h1 h2 h3 k (i + 1)
theorem fresh_th {m : Mach} {n : Nat} (hn : n < m.threads.length) : ∀ (l : List Nat), (∀ x ∈ l, x ≠ n) → (play m l).ths[n]? = some ⟨0, none⟩ := by
  have key : ∀ (l : List Nat) (i : Nat) (s : PS), (∀ x ∈ l, x ≠ n) → s.ths[n]? = some ⟨0, none⟩ → (prun m i l s).ths[n]? = some ⟨0, none⟩ := by
    intro l
    induction l with
    | nil => intro i s _ h; exact h
    | cons x l ih =>
      intro i s hl h
      rw [prun]
      exact ih (i + 1) _ (fun y hy => hl y (List.mem_cons_of_mem _ hy)) (by rw [mstep_other m s i x n (fun e => hl x List.mem_cons_self e.symm)]; exact h)
  intro l hl
  exact key l 0 _ hl (by simp [pinit, hn])
theorem all_res (xs : List Int) (a : List Nat) (ha : ∀ x ∈ a, x < 3) (hal : a.length ≤ 300) : ∃ v, AllR (countMA xs) (doings (play (countMA xs) (allS a ++ List.replicate 60 3)).evs) v := by
  have hm := countMA_ok xs
  have t0 : (countMA xs).threads[0]? = some (countThs xs 9 0) := rfl
  have t1 : (countMA xs).threads[1]? = some (countThs xs 9 1) := rfl
  have t2 : (countMA xs).threads[2]? = some (countThs xs 9 2) := rfl
  have t3 : (countMA xs).threads[3]? = some [⟨1, []⟩] := rfl
  have l0 := countThs_three xs 0 (by decide)
  have l1 := countThs_three xs 1 (by decide)
  have l2 := countThs_three xs 2 (by decide)
  have hlen : (countMA xs).threads.length = 4 := rfl
  have d0 : DoneT (countMA xs) (play (countMA xs) (allS a)) 0 := ((alone_done hm (a := a) (n := 0) (by rw [hlen]; decide) t0 (by omega) 200 (by decide) (by omega)).more 1 200).more 2 200
  have d1 : DoneT (countMA xs) (play (countMA xs) (allS a)) 1 := (alone_done hm (a := a ++ List.replicate 200 0) (n := 1) (by rw [hlen]; decide) t1 (by omega) 200 (by decide) (by rw [List.length_append, List.length_replicate]; omega)).more 2 200
  have d2 : DoneT (countMA xs) (play (countMA xs) (allS a)) 2 := alone_done hm (a := a ++ List.replicate 200 0 ++ List.replicate 200 1) (n := 2) (by rw [hlen]; decide) t2 (by omega) 200 (by decide) (by simp only [List.length_append, List.length_replicate]; omega)
  have hlt : ∀ x ∈ allS a, x ≠ 3 := by
    intro x hx
    unfold allS at hx
    simp only [List.mem_append, List.mem_replicate] at hx
    rcases hx with ((hx | hx) | hx) | hx
    · have := ha x hx; omega
    · omega
    · omega
    · omega
  have f3 := fresh_th (m := countMA xs) (n := 3) (by rw [hlen]; decide) (allS a) hlt
  obtain ⟨v, hw, K⟩ := (count_play hm (allS a) (by rw [allS_len]; omega)).1
  have D1 := play_di (countMA xs) (allS a)
  have hsl := len_play hm (allS a) (by rw [allS_len]; omega)
  -- the last thread's two steps
  have hfin : play (countMA xs) (allS a ++ List.replicate 60 3) = ⟨(play (countMA xs) (allS a)).ths.set 3 ⟨1, none⟩, [v], (play (countMA xs) (allS a)).evs ++ [⟨(allS a).length, 3, 0, false, 0, []⟩] ++ [⟨(allS a).length + 1, 3, 0, true, 0, [v]⟩]⟩ := by
    have e1 : play (countMA xs) (allS a ++ List.replicate 60 3) = prun (countMA xs) (allS a).length (List.replicate 60 3) (play (countMA xs) (allS a)) := by
      unfold play; rw [prun_append, Nat.zero_add]
    rw [e1, show List.replicate 60 3 = 3 :: 3 :: List.replicate 58 3 from rfl, prun, prun]
    rw [mstep_begin f3 t3 (c := ⟨1, []⟩) rfl (t' := getTh 1 v) (ws' := [v]) (by show vstep ((countMA xs).codes.getD 1 []) (vbegin ((countMA xs).codes.getD 1 []).length []) _ = _; rw [hm.c1, get_begin, hw, get_0]) rfl]
    rw [mstep_fin (s := ⟨(play (countMA xs) (allS a)).ths.set 3 ⟨0 + 1, some (1, getTh 1 v)⟩, [v], _⟩) (set_at f3 _) t3 (by rw [hm.c1, get_1]) rfl]
    rw [idle_more (nx := 1) (calls := [⟨1, []⟩]) ?_ t3 rfl]
    · simp [List.set_set]
    · show ((play (countMA xs) (allS a)).ths.set 3 _ |>.set 3 _)[3]? = _
      rw [List.set_set, set_at f3]
  rw [hfin]
  have hdone : ∀ (k : Nat) (d : Dg), (doings (play (countMA xs) (allS a)).evs)[k]? = some d → d.t < 3 ∧ ∃ e, d.e = some e := by
    intro k d hk
    obtain ⟨p, hp, hc, hiff⟩ := D1.lt k d hk
    have hpl := (List.getElem?_eq_some_iff.1 hp).1
    have h4 : (play (countMA xs) (allS a)).ths.length = 4 := by
      have : ∀ (l : List Nat) (i : Nat) (s : PS), (prun (countMA xs) i l s).ths.length = s.ths.length := by
        intro l
        induction l with
        | nil => intro i s; rfl
        | cons x l ih => intro i s; rw [prun, ih, pstep_len]
      unfold play; rw [this]; simp [pinit, hlen]
    rw [h4] at hpl
    have hnone : p.cur = none ∧ d.t < 3 := by
      rcases (show d.t = 0 ∨ d.t = 1 ∨ d.t = 2 ∨ d.t = 3 by omega) with e | e | e | e
      · obtain ⟨nx, calls, h1, _⟩ := d0; rw [e, h1] at hp; injection hp with hp; rw [← hp]; exact ⟨rfl, by omega⟩
      · obtain ⟨nx, calls, h1, _⟩ := d1; rw [e, h1] at hp; injection hp with hp; rw [← hp]; exact ⟨rfl, by omega⟩
      · obtain ⟨nx, calls, h1, _⟩ := d2; rw [e, h1] at hp; injection hp with hp; rw [← hp]; exact ⟨rfl, by omega⟩
      · rw [e, f3] at hp; injection hp with hp; rw [← hp] at hc; simp at hc
    refine ⟨hnone.2, ?_⟩
    cases he : d.e with
    | some e => exact ⟨e, rfl⟩
    | none => have := (hiff.1 he).1; rw [hnone.1] at this; cases this
  -- the calls, with the last one
  have hds : doings ((play (countMA xs) (allS a)).evs ++ [⟨(allS a).length, 3, 0, false, 0, []⟩] ++ [⟨(allS a).length + 1, 3, 0, true, 0, [v]⟩]) = doings (play (countMA xs) (allS a)).evs ++ [⟨(allS a).length, some ((allS a).length + 1), 3, 0, [v]⟩] := by
    rw [doings_snoc, doings_snoc]
    rw [show ∀ ds, dstep ds ⟨(allS a).length, 3, 0, false, 0, []⟩ = ds ++ [⟨(allS a).length, none, 3, 0, []⟩] from fun _ => rfl]
    rw [dstep_last rfl (fun x hx => by
      obtain ⟨k, hk⟩ := List.getElem?_of_mem hx
      obtain ⟨_, e, he⟩ := hdone k x hk
      rw [he]; rfl) (by simp [dopen])]
  simp only
  rw [hds]
  have hnext : ∀ n, n < 3 → DoneT (countMA xs) (play (countMA xs) (allS a)) n → ∃ p, (play (countMA xs) (allS a)).ths[n]? = some p ∧ p.next = 3 := by
    intro n hn hd
    obtain ⟨nx, calls, h1, h2, h3⟩ := hd
    have hcl : calls = countThs xs 9 n := by
      rcases (show n = 0 ∨ n = 1 ∨ n = 2 by omega) with rfl | rfl | rfl
      · rw [t0] at h2; injection h2 with h2; exact h2.symm
      · rw [t1] at h2; injection h2 with h2; exact h2.symm
      · rw [t2] at h2; injection h2 with h2; exact h2.symm
    rw [hcl, countThs_three xs n hn] at h3
    refine ⟨_, h1, ?_⟩
    show nx = 3
    rcases Nat.lt_or_ge 3 nx with h4 | h4
    · obtain ⟨k, d, hk, hdt, hdc⟩ := D1.ths n _ h1 3 h4
      obtain ⟨c, hc, _⟩ := K.call k d hk
      unfold callOf at hc
      rw [hdt, hdc, h2, hcl] at hc
      simp only [Option.bind_some] at hc
      have := (List.getElem?_eq_some_iff.1 hc).1
      rw [countThs_three xs n hn] at this; omega
    · omega
  obtain ⟨p0, q0, n0⟩ := hnext 0 (by decide) d0
  obtain ⟨p1, q1, n1⟩ := hnext 1 (by decide) d1
  obtain ⟨p2, q2, n2⟩ := hnext 2 (by decide) d2
  have hths : (play (countMA xs) (allS a)).ths = [p0, p1, p2, ⟨0, none⟩] := by
    have h4 : (play (countMA xs) (allS a)).ths.length = 4 := by
      have : ∀ (l : List Nat) (i : Nat) (s : PS), (prun (countMA xs) i l s).ths.length = s.ths.length := by
        intro l
        induction l with
        | nil => intro i s; rfl
        | cons x l ih => intro i s; rw [prun, ih, pstep_len]
      unfold play; rw [this]; simp [pinit, hlen]
    refine List.ext_getElem? fun j => ?_
    rcases (show j = 0 ∨ j = 1 ∨ j = 2 ∨ j = 3 ∨ 4 ≤ j by omega) with rfl | rfl | rfl | rfl | h
    · rw [q0]; rfl
    · rw [q1]; rfl
    · rw [q2]; rfl
    · rw [f3]; rfl
    · rw [List.getElem?_eq_none (by omega), List.getElem?_eq_none (by simpa using h)]
  have hcount : (doings (play (countMA xs) (allS a)).evs).length = 9 := by
    rw [hsl, hths]
    simp [n0, n1, n2]
  have hnewarg : argOf (countMA xs) ⟨(allS a).length, some ((allS a).length + 1), 3, 0, [v]⟩ = 0 := rfl
  have hadd : ∀ (k : Nat) (d : Dg), (doings (play (countMA xs) (allS a)).evs)[k]? = some d → addedB (play (countMA xs) (allS a)).ths d = true ∧ oldOf (play (countMA xs) (allS a)).ths d = d.told.getD 0 0 := by
    intro k d hk
    obtain ⟨_, e, he⟩ := hdone k d hk
    exact added_done he
  have hv5 := K.v0
  rw [allS_len] at hv5
  refine ⟨v, by rw [List.length_append, hcount]; rfl, fun k d hk => ?_, fun k d hk => ?_, fun j k d d' hjk hj hk a1 a2 he => ?_, ?_, ⟨hv5.1, by omega⟩, fun k d hk ht => ?_, ⟨9, _, by rw [List.getElem?_append_right (by omega), hcount]; rfl, rfl⟩⟩
  · rcases get_snoc hk with hk | ⟨_, rfl⟩
    · obtain ⟨_, e, he⟩ := hdone k d hk
      obtain ⟨o, b1, b2, b3⟩ := K.told k d e hk he
      exact ⟨e, o, he, b1, b2, b3⟩
    · exact ⟨_, v, rfl, rfl, hv5.1, Int.le_refl _⟩
  · rcases get_snoc hk with hk | ⟨_, rfl⟩
    · exact K.call k d hk
    · exact ⟨⟨1, []⟩, rfl, .inl rfl⟩
  · rcases get_snoc hj with hj | ⟨_, rfl⟩
    · rcases get_snoc hk with hk | ⟨_, rfl⟩
      · have h1 := hadd j d hj
        have h2 := hadd k d' hk
        have := K.dis j k d d' hjk hj hk h1.1 h2.1 a1 a2
        rw [h1.2, h2.2, he] at this
        omega
      · rw [hnewarg] at a2; omega
    · rw [hnewarg] at a1; omega
  · rw [List.map_append, List.sum_append]
    have e1 : (doings (play (countMA xs) (allS a)).evs).map (argOf (countMA xs)) = (doings (play (countMA xs) (allS a)).evs).map (con (countMA xs) (play (countMA xs) (allS a)).ths) := List.map_congr_left fun d hd => by
      obtain ⟨k, hk⟩ := List.getElem?_of_mem hd
      unfold con; rw [(hadd k d hk).1]; rfl
    rw [e1, ← K.sum]
    simp [hnewarg]
  · rcases get_snoc hk with hk | ⟨_, rfl⟩
    · have := (hdone k d hk).1; omega
    · rfl
end Go.Proofs.YtnoinojhocicjaaDoor
