/-
  Objects whose calls have one effect each: the effects in their order; plain laws. Machines of three threads that put numbers of their own, or take: plain. Package queue under whatever schedule: plain laws. Package count: the calls of a run in an order of their own; plain laws. Runs of an object whose calls could be one behind the other: plain laws. (Merged by merge.py.)
-/
import Derived.Test.YtbcjgnigdddlkaaDoorQStep
import Derived.Test.YtbcjgnigdddlkaaDoorCountLaw
import Derived.Test.YtbcjgnigdddlkaaDoorInside
import Derived.Test.YtbcjgnigdddlkaaDoorMachN
import Derived.Test.YtbcjgnigdddlkaaDoorRunMath
namespace Go.Proofs.YtbcjgnigdddlkaaDoor
set_option linter.unusedVariables false

section
open Go.RowKit
/-- an effect: of which call of the run, whether it put, and what was put or taken -/
structure Lg where
  k : Nat
  put : Bool
  v : Int
def OSeq (q : Bool) : List Int → List Lg → List Int → Prop
  | has, [], l => l = has
  | has, x :: H, l => (otell q has x.put x.v).1 = x.v ∧ OSeq q (otell q has x.put x.v).2 H l
theorem OSeq.snoc {q : Bool} {x : Lg} : ∀ {H : List Lg} {has l : List Int}, OSeq q has H l → (otell q l x.put x.v).1 = x.v → OSeq q has (H ++ [x]) (otell q l x.put x.v).2
  | [], has, l, h, hx => by
    have h : l = has := h
    subst h
    exact ⟨hx, rfl⟩
  | y :: H, has, l, h, hx => ⟨h.1, OSeq.snoc h.2 hx⟩
theorem otell_take (q : Bool) (l : List Int) (v w : Int) : otell q l false v = otell q l false w := rfl
/-- what is there is what was put and not taken -/
theorem otell_len (q : Bool) (l : List Int) (h : ∀ y ∈ l, y ≠ -1) (p : Bool) (v : Int) (hp : p = true → v ≠ -1) (hv : (otell q l p v).1 = v) :
    (otell q l p v).2.length + (if !p && v != -1 then 1 else 0) = l.length + (if p then 1 else 0) ∧ ∀ y ∈ (otell q l p v).2, y ≠ -1 := by
  cases p with
  | true =>
    refine ⟨by simp [otell], fun y hy => ?_⟩
    rcases List.mem_append.1 (show y ∈ l ++ [v] from hy) with h1 | h1
    · exact h y h1
    · rw [List.mem_singleton.1 h1]; exact hp rfl
  | false =>
    match l, h, hv with
    | [], h, hv =>
      have hv : (-1 : Int) = v := hv
      subst hv
      exact ⟨rfl, fun y hy => by cases hy⟩
    | x :: l, h, hv =>
      cases q with
      | true =>
        have hv : x = v := hv
        subst hv
        have hx := h x List.mem_cons_self
        refine ⟨?_, fun y hy => h y (List.mem_cons_of_mem _ hy)⟩
        show l.length + (if (!false && x != -1) = true then 1 else 0) = (x :: l).length + 0
        rw [if_pos (by simp [hx])]; rfl
      | false =>
        have hv : (x :: l).getLast?.getD 0 = v := hv
        rw [List.getLast?_eq_some_getLast (by simp), Option.getD_some] at hv
        have hx : v ≠ -1 := by rw [← hv]; exact h _ (List.getLast_mem _)
        refine ⟨?_, fun y hy => h y (List.dropLast_subset _ hy)⟩
        show (x :: l).dropLast.length + (if (!false && v != -1) = true then 1 else 0) = (x :: l).length + 0
        rw [if_pos (by simp [hx]), List.length_dropLast]; simp
theorem filter_len {α : Type} (p : α → Bool) (x : α) (l : List α) : ((x :: l).filter p).length = (l.filter p).length + (if p x then 1 else 0) := by
  rw [List.filter_cons]; split <;> simp
theorem OSeq.len {q : Bool} : ∀ {H : List Lg} {has l : List Int}, OSeq q has H l → (∀ y ∈ has, y ≠ -1) → (∀ x ∈ H, x.put = true → x.v ≠ -1) →
    l.length + (H.filter fun x => !x.put && x.v != -1).length = has.length + (H.filter fun x => x.put).length ∧ ∀ y ∈ l, y ≠ -1
  | [], has, l, h, h1, h2 => by
    have h : l = has := h
    subst h
    exact ⟨rfl, h1⟩
  | x :: H, has, l, h, h1, h2 => by
    obtain ⟨a, b⟩ := otell_len q has h1 x.put x.v (h2 x List.mem_cons_self) h.1
    obtain ⟨c, d⟩ := OSeq.len h.2 b fun y hy => h2 y (List.mem_cons_of_mem _ hy)
    refine ⟨?_, d⟩
    rw [filter_len, filter_len]
    omega
/-! ### machines -/
def isPut (c : VCall) : Bool := c.code == 0
def argV (c : VCall) : Int := if isPut c then c.args.getD 0 0 else 0
def OkC (c : VCall) : Prop := (c.code = 0 ∧ ∃ v, c.args = [v] ∧ 0 ≤ v) ∨ (c.code = 1 ∧ c.args = [])
structure ObjM (q : Bool) (N : Nat) (m : Mach) (P : List Int → VCall → Ph → Th → Prop) (G : List PT → List Int → List Int → Prop) : Prop where
  call : ∀ (n nx : Nat) (c : VCall), callOf m n nx = some c → OkC c
  beg : ∀ ths ws l n nx c, G ths ws l → ths[n]? = some ⟨nx, none⟩ → callOf m n nx = some c → P ws c .no (vbegin (m.codes.getD c.code []).length c.args) ∧ G (ths.set n ⟨nx + 1, some (c.code, vbegin (m.codes.getD c.code []).length c.args)⟩) ws l
  act : ∀ ths ws l n nx t c ph, G ths ws l → ths[n]? = some ⟨nx + 1, some (c.code, t)⟩ → callOf m n nx = some c → P ws c ph t →
    (∀ n' nx' t' c' ph'', n' ≠ n → ths[n']? = some ⟨nx' + 1, some (c'.code, t')⟩ → callOf m n' nx' = some c' → P ws c' ph'' t' → P (vstep (m.codes.getD c.code []) t ws).2 c' ph'' t') ∧
    ∃ ph' l', (vstep (m.codes.getD c.code []) t ws).1.err = 0 ∧
      (((vstep (m.codes.getD c.code []) t ws).1.over = false ∧ OEff q N (isPut c) (argV c) ph l ph' l' ∧ P (vstep (m.codes.getD c.code []) t ws).2 c ph' (vstep (m.codes.getD c.code []) t ws).1 ∧ G (ths.set n ⟨nx + 1, some (c.code, (vstep (m.codes.getD c.code []) t ws).1)⟩) (vstep (m.codes.getD c.code []) t ws).2 l') ∨
       ((vstep (m.codes.getD c.code []) t ws).1.over = true ∧ ph' = ph ∧ l' = l ∧ OTold (isPut c) ph' (vstep (m.codes.getD c.code []) t ws).1.told ∧ G (ths.set n ⟨nx + 1, none⟩) (vstep (m.codes.getD c.code []) t ws).2 l'))
/-! ### who was turned away -/
def putD (m : Mach) (d : Dg) : Bool := match callOf m d.t d.c with | some c => isPut c | none => false
def tkF (m : Mach) (b : Nat) (d : Dg) : Bool := !putD m d && (match d.e with | some e => decide (e < b) | none => false) && d.told != [-1]
def ptF (m : Mach) (k i j : Nat) (d : Dg) : Bool := decide (j ≠ k) && putD m d && decide (d.b < i)
/-- there was no room: so many were taken ahead of b, so many came ahead of i -/
def Full (N : Nat) (m : Mach) (ds : List Dg) (k b i : Nat) : Prop := N + cntI (fun _ => tkF m b) 0 ds ≤ cntI (ptF m k i) 0 ds
theorem cntI_mono {α : Type} {f g : Nat → α → Bool} : ∀ (l : List α) (k : Nat), (∀ j x, f j x = true → g j x = true) → cntI f k l ≤ cntI g k l
  | [], _, _ => Nat.le_refl _
  | x :: l, k, h => by
    have ih := cntI_mono l (k + 1) h
    have h1 := h k x
    unfold cntI b2n
    cases hf : f k x with
    | true => rw [h1 hf]; simp; omega
    | false => simp; omega
theorem cntI_congr {α : Type} {f g : Nat → α → Bool} : ∀ (l : List α) (k : Nat), (∀ j x, l[j]? = some x → f (k + j) x = g (k + j) x) → cntI f k l = cntI g k l
  | [], _, _ => rfl
  | x :: l, k, h => by
    have ih := cntI_congr (f := f) (g := g) l (k + 1) fun j y hy => by rw [show k + 1 + j = k + (j + 1) by omega]; exact h (j + 1) y (by simpa using hy)
    have h0 := h 0 x rfl
    rw [Nat.add_zero] at h0
    unfold cntI
    rw [ih, h0]
/-- who is counted is listed -/
theorem cntI_list {α : Type} (f : Nat → α → Bool) : ∀ (n : Nat) (l : List α) (ks : List Nat), l.length = n → (∀ k x, l[k]? = some x → f k x = true → k ∈ ks) → cntI f 0 l ≤ ks.length
  | 0, l, ks, hl, h => by
    have : l = [] := List.eq_nil_of_length_eq_zero hl
    subst this; exact Nat.zero_le _
  | n + 1, l, ks, hl, h => by
    obtain ⟨l', p, rfl⟩ : ∃ l' p, l = l' ++ [p] := ⟨l.dropLast, l.getLast (by intro e; rw [e] at hl; simp at hl), (List.dropLast_concat_getLast _).symm⟩
    have hl' : l'.length = n := by simpa using hl
    rw [cntI_snoc, hl', Nat.zero_add]
    cases hp : f n p with
    | false =>
      have := cntI_list f n l' ks hl' fun k x hk hf => h k x (snoc_get hk _) hf
      unfold b2n; simp; exact this
    | true =>
      have hm : n ∈ ks := h n p (by rw [List.getElem?_append_right (by omega), hl', Nat.sub_self]; rfl) hp
      have ih := cntI_list f n l' (ks.erase n) hl' fun k x hk hf => by
        have hk' := (List.getElem?_eq_some_iff.1 hk).1
        exact (List.mem_erase_of_ne (by omega)).2 (h k x (snoc_get hk _) hf)
      have e := List.length_erase_of_mem hm
      have : 0 < ks.length := List.length_pos_of_mem hm
      unfold b2n; simp; omega
theorem Full.mono {N : Nat} {m : Mach} {ds : List Dg} {k b i j : Nat} (h : Full N m ds k b i) (hij : i ≤ j) : Full N m ds k b j :=
  Nat.le_trans h (cntI_mono _ _ fun a d hd => by
    unfold ptF at hd ⊢
    simp only [Bool.and_eq_true, decide_eq_true_eq] at hd ⊢
    exact ⟨hd.1, by omega⟩)
theorem Full.snoc {N : Nat} {m : Mach} {ds : List Dg} {k b i : Nat} (h : Full N m ds k b i) (d : Dg) (he : d.e = none) : Full N m (ds ++ [d]) k b i := by
  unfold Full at h ⊢
  rw [cntI_snoc, cntI_snoc]
  have e : tkF m b d = false := by unfold tkF; rw [he]; simp
  rw [e]; unfold b2n; simp; omega
/-- a call that ends at i -/
theorem Full.set {N : Nat} {m : Mach} {ds : List Dg} {k b i j k0 : Nat} {d0 d1 : Dg} (h : Full N m ds k b j) (hk : ds[k0]? = some d0) (he0 : d0.e = none) (hd : d1.b = d0.b ∧ d1.t = d0.t ∧ d1.c = d0.c) (he1 : ∀ e, d1.e = some e → b ≤ e) : Full N m (ds.set k0 d1) k b j := by
  unfold Full at h ⊢
  have h1 := cntI_set0 (fun _ => tkF m b) d1 hk
  have h2 := cntI_set0 (ptF m k j) d1 hk
  have e0 : tkF m b d0 = false := by unfold tkF; rw [he0]; simp
  have e1 : tkF m b d1 = false := by
    unfold tkF
    cases hx : d1.e with
    | none => simp
    | some e => have := he1 e hx; simp; omega
  have e2 : ptF m k j k0 d1 = ptF m k j k0 d0 := by unfold ptF putD; rw [hd.1, hd.2.1, hd.2.2]
  rw [e0, e1] at h1
  rw [e2] at h2
  omega
/-- how the effects tell of a call -/
def PhOk (N : Nat) (m : Mach) (ds : List Dg) (H : List Lg) (i k : Nat) (d : Dg) : Ph → Prop
  | .no => ∀ x ∈ H, x.k ≠ k
  | .done v => ∃ x ∈ H, x.k = k ∧ x.v = v
  | .ref => (∀ x ∈ H, x.k ≠ k) ∧ Full N m ds k d.b i
structure LI (q : Bool) (N : Nat) (m : Mach) (P : VCall → Ph → Th → Prop) (i : Nat) (ths : List PT) (ds : List Dg) (H : List Lg) (l : List Int) : Prop where
  seq : OSeq q [] H l
  nd : (H.map Lg.k).Nodup
  ent : ∀ x ∈ H, ∃ (d : Dg) (c : VCall), ds[x.k]? = some d ∧ callOf m d.t d.c = some c ∧ x.put = isPut c ∧ (x.put = true → x.v = argV c) ∧ d.b < i ∧ ∀ e, d.e = some e → d.told = [if x.put then 1 else x.v]
  call : ∀ (k : Nat) (d : Dg), ds[k]? = some d → ∃ c, callOf m d.t d.c = some c ∧ OkC c
  cov : ∀ (k : Nat) (d : Dg) (e : Nat), ds[k]? = some d → d.e = some e → (∃ x ∈ H, x.k = k) ∨ (putD m d = true ∧ d.told = [0] ∧ Full N m ds k d.b e)
  rt : H.Pairwise fun x y => ∀ (dx dy : Dg) (e : Nat), ds[x.k]? = some dx → ds[y.k]? = some dy → dy.e = some e → dx.b ≤ e
  th : ∀ (n nx ci : Nat) (t : Th), ths[n]? = some ⟨nx, some (ci, t)⟩ → 1 ≤ nx ∧ ∃ c ph, callOf m n (nx - 1) = some c ∧ ci = c.code ∧ P c ph t ∧ ∀ (k : Nat) (d : Dg), ds[k]? = some d → d.t = n → d.c = nx - 1 → PhOk N m ds H i k d ph
theorem ent_uniq {H : List Lg} (hn : (H.map Lg.k).Nodup) {x y : Lg} (hx : x ∈ H) (hy : y ∈ H) (e : x.k = y.k) : x = y := by
  obtain ⟨a, ha⟩ := List.getElem?_of_mem hx
  obtain ⟨b, hb⟩ := List.getElem?_of_mem hy
  have h1 : (H.map Lg.k)[a]? = some x.k := by rw [List.getElem?_map, ha]; rfl
  have h2 : (H.map Lg.k)[b]? = some x.k := by rw [List.getElem?_map, hb, e]; rfl
  have hl := (List.getElem?_eq_some_iff.1 h1).1
  have hab : a = b := (List.getElem?_inj hl hn).1 (by rw [h1, h2])
  subst hab
  rw [ha] at hb
  injection hb
theorem okc_arg {c : VCall} (h : OkC c) : argV c ≠ -1 := by
  unfold argV isPut
  rcases h with ⟨h, v, hv, h0⟩ | ⟨h, hv⟩
  · rw [h, hv]; simp; omega
  · rw [h]; simp
theorem nodup_sub {H : List Lg} (hn : (H.map Lg.k).Nodup) (f : Lg → Bool) : ((H.filter f).map Lg.k).Nodup := hn.sublist ((List.filter_sublist).map _)
/-- all room is taken: nobody who is turned away is so without need -/
theorem LI.full {q : Bool} {N : Nat} {m : Mach} {P : VCall → Ph → Th → Prop} {i : Nat} {ths : List PT} {ds : List Dg} {H : List Lg} {l : List Int} (h : LI q N m P i ths ds H l) {k b : Nat} (hk : ∀ x ∈ H, x.k ≠ k) (hl : N ≤ l.length) : Full N m ds k b i := by
  have hv : ∀ x ∈ H, x.put = true → x.v ≠ -1 := fun x hx hp => by
    obtain ⟨d, c, h1, h2, h3, h4, _⟩ := h.ent x hx
    obtain ⟨c', h5, h6⟩ := h.call x.k d h1
    rw [h2] at h5; injection h5 with h5; subst h5
    rw [h4 hp]; exact okc_arg h6
  have hlen := (h.seq.len (by simp) hv).1
  rw [List.length_nil, Nat.zero_add] at hlen
  have a1 : (H.filter fun x => x.put).length ≤ cntI (ptF m k i) 0 ds := by
    rw [← List.length_map (f := Lg.k)]
    refine nodup_count _ _ _ _ rfl (nodup_sub h.nd _) fun j hj => ?_
    obtain ⟨x, hx, rfl⟩ := List.mem_map.1 hj
    obtain ⟨hx1, hx2⟩ := List.mem_filter.1 hx
    obtain ⟨d, c, h1, h2, h3, h4, h5, _⟩ := h.ent x hx1
    refine ⟨d, h1, ?_⟩
    unfold ptF putD
    rw [h2]
    simp only [Bool.and_eq_true, decide_eq_true_eq]
    exact ⟨⟨hk x hx1, by rw [← h3]; exact hx2⟩, h5⟩
  have a2 : cntI (fun _ => tkF m b) 0 ds ≤ (H.filter fun x => !x.put && x.v != -1).length := by
    rw [← List.length_map (f := Lg.k)]
    refine cntI_list _ _ _ _ rfl fun j d hj hf => ?_
    unfold tkF at hf
    simp only [Bool.and_eq_true, Bool.not_eq_true'] at hf
    obtain ⟨⟨f1, f2⟩, f3⟩ := hf
    obtain ⟨e, he⟩ : ∃ e, d.e = some e := by
      cases hx : d.e with
      | none => rw [hx] at f2; cases f2
      | some e => exact ⟨e, rfl⟩
    rcases h.cov j d e hj he with ⟨x, hx, rfl⟩ | ⟨h1, _⟩
    · refine List.mem_map.2 ⟨x, List.mem_filter.2 ⟨hx, ?_⟩, rfl⟩
      obtain ⟨d', c, h1, h2, h3, h4, h5, h6⟩ := h.ent x hx
      rw [hj] at h1; injection h1 with h1; subst h1
      have hp : x.put = false := by unfold putD at f1; rw [h2] at f1; rw [h3]; exact f1
      have ht := h6 e he
      rw [hp] at ht ⊢
      rw [ht] at f3
      simpa using f3
    · rw [h1] at f1; cases f1
  unfold Full
  omega
section
variable {q : Bool} {N : Nat} {m : Mach} {P : VCall → Ph → Th → Prop} {i : Nat} {ths : List PT} {ds : List Dg} {H : List Lg} {l : List Int}
/-- a step of a thread within its call -/
theorem LI.own {P' : VCall → Ph → Th → Prop} (h : LI q N m P i ths ds H l) {n k0 : Nat} {d0 : Dg} {p0 : PT} (hk0 : ds[k0]? = some d0) (hn : ths[n]? = some p0) (ht0 : d0.t = n) (he0 : d0.e = none)
    (hoP : ∀ (n' nx : Nat) (t : Th) (c : VCall) (ph : Ph), n' ≠ n → ths[n']? = some ⟨nx + 1, some (c.code, t)⟩ → callOf m n' nx = some c → P c ph t → P' c ph t)
    (huniq : ∀ (k : Nat) (d : Dg), ds[k]? = some d → d.t = n → d.c = d0.c → k = k0) (hb : ∀ (k : Nat) (d : Dg), ds[k]? = some d → d.b ≤ i)
    (p' : PT) (d1 : Dg) (hd : d1.b = d0.b ∧ d1.t = d0.t ∧ d1.c = d0.c) {c : VCall} (hc : callOf m n d0.c = some c) {ph ph' : Ph} {l' : List Int} (hph : PhOk N m ds H i k0 d0 ph)
    (heff : OEff q N (isPut c) (argV c) ph l ph' l')
    (hp : ∀ ci t, p'.cur = some (ci, t) → d1 = d0 ∧ p'.next = d0.c + 1 ∧ ci = c.code ∧ P' c ph' t)
    (he1 : ∀ e, d1.e = some e → e = i ∧ ph' = ph ∧ l' = l ∧ OTold (isPut c) ph' d1.told) :
    ∃ H', LI q N m P' (i + 1) (ths.set n p') (ds.set k0 d1) H' l' := by
  have hcall : callOf m d1.t d1.c = some c := by rw [hd.2.1, hd.2.2, ht0]; exact hc
  have hcall0 : callOf m d0.t d0.c = some c := by rw [ht0]; exact hc
  have hput1 : putD m d1 = isPut c := by unfold putD; rw [hcall]
  have hfull : ∀ {k b j : Nat}, b ≤ i → Full N m ds k b j → Full N m (ds.set k0 d1) k b j := fun hbi hf => hf.set (i := i) hk0 he0 hd (fun e he => by rw [(he1 e he).1]; exact hbi)
  have hget : ∀ {k : Nat} {d : Dg}, (ds.set k0 d1)[k]? = some d → (k = k0 ∧ d = d1) ∨ (k ≠ k0 ∧ ds[k]? = some d) := fun h => get_set h
  have hcallD : ∀ (k : Nat) (d : Dg), (ds.set k0 d1)[k]? = some d → ∃ c, callOf m d.t d.c = some c ∧ OkC c := fun k d hk => by
    rcases hget hk with ⟨_, rfl⟩ | ⟨_, hk⟩
    · rw [hd.2.1, hd.2.2]; exact h.call k0 d0 hk0
    · exact h.call k d hk
  -- the other threads
  have hoth : ∀ {H' : List Lg}, (∀ x, x ∈ H → x ∈ H') → (∀ x, x ∈ H' → x ∈ H ∨ x.k = k0) → ∀ (n' nx ci : Nat) (t : Th), n' ≠ n → ths[n']? = some ⟨nx, some (ci, t)⟩ → 1 ≤ nx ∧ ∃ c ph, callOf m n' (nx - 1) = some c ∧ ci = c.code ∧ P' c ph t ∧ ∀ (k : Nat) (d : Dg), (ds.set k0 d1)[k]? = some d → d.t = n' → d.c = nx - 1 → PhOk N m (ds.set k0 d1) H' (i + 1) k d ph := by
    intro H' hs hs2 n' nx ci t hne ht
    obtain ⟨a1, c', ph2, a2, a3, a4, a5⟩ := h.th n' nx ci t ht
    have a4' : P' c' ph2 t := hoP n' (nx - 1) t c' ph2 hne (by rw [show nx - 1 + 1 = nx by omega, ← a3]; exact ht) a2 a4
    refine ⟨a1, c', ph2, a2, a3, a4', fun k d hk hdt hdc => ?_⟩
    rcases hget hk with ⟨e1, e2⟩ | ⟨hkk, hk⟩
    · subst e2; exact absurd (by rw [← hdt, hd.2.1, ht0]) hne
    · have := a5 k d hk hdt hdc
      have hno : (∀ x ∈ H, x.k ≠ k) → ∀ x ∈ H', x.k ≠ k := fun hh x hx => by
        rcases hs2 x hx with h1 | h1
        · exact hh x h1
        · rw [h1]; exact fun e => hkk e.symm
      cases ph2 with
      | no => exact hno this
      | done v => obtain ⟨x, b1, b2⟩ := this; exact ⟨x, hs x b1, b2⟩
      | ref => exact ⟨hno this.1, hfull (hb k d hk) (this.2.mono (Nat.le_succ i))⟩
  have hown : ∀ {H' : List Lg}, (d1 = d0 → PhOk N m ds H' (i + 1) k0 d0 ph') → (∀ x, x ∈ H → x ∈ H') → (∀ x, x ∈ H' → x ∈ H ∨ x.k = k0) → ∀ (n' nx ci : Nat) (t : Th), (ths.set n p')[n']? = some ⟨nx, some (ci, t)⟩ → 1 ≤ nx ∧ ∃ c ph, callOf m n' (nx - 1) = some c ∧ ci = c.code ∧ P' c ph t ∧ ∀ (k : Nat) (d : Dg), (ds.set k0 d1)[k]? = some d → d.t = n' → d.c = nx - 1 → PhOk N m (ds.set k0 d1) H' (i + 1) k d ph := by
    intro H' h0 hs hs2 n' nx ci t hn'
    rcases get_set hn' with ⟨e1, e2⟩ | ⟨e1, e2⟩
    · subst e1
      obtain ⟨b1, b2, b3, b4⟩ := hp ci t (by rw [← e2])
      rw [← e2] at b2
      have b2 : nx = d0.c + 1 := b2
      refine ⟨by omega, c, ph', by rw [b2, Nat.add_sub_cancel]; exact hc, b3, b4, fun k d hk hdt hdc => ?_⟩
      rw [b2, Nat.add_sub_cancel] at hdc
      have hst : ds.set k0 d1 = ds := by rw [b1]; exact setSelf hk0
      rw [hst] at hk ⊢
      have hkk := huniq k d hk hdt hdc
      subst hkk
      rw [hk0] at hk; injection hk with hk; subst hk
      exact h0 b1
    · exact hoth hs hs2 n' nx ci t e1 e2
  -- an effect that is told of already
  have hsame : l' = l → ph' = ph ∨ (ph = .no ∧ ph' = .ref ∧ isPut c = true ∧ N ≤ l.length) → LI q N m P' (i + 1) (ths.set n p') (ds.set k0 d1) H l' := by
    intro hl hpp
    subst hl
    refine ⟨h.seq, h.nd, fun x hx => ?_, hcallD, fun k d e hk he => ?_, h.rt.imp_of_mem fun {x y} hx hy hxy dx dy e h1 h2 h3 => ?_, hown ?_ (fun x h => h) (fun x h => .inl h)⟩
    · obtain ⟨d, c', b1, b2, b3, b4, b5, b6⟩ := h.ent x hx
      by_cases e : x.k = k0
      · have b1' := b1
        rw [e, hk0] at b1'; injection b1' with b1'; subst b1'
        rw [hcall0] at b2; injection b2 with b2; subst b2
        refine ⟨d1, c, by rw [e]; exact set_at hk0 _, hcall, b3, b4, by rw [hd.1]; omega, fun e2 he2 => ?_⟩
        obtain ⟨_, c1, _, c2⟩ := he1 e2 he2
        subst c1
        rcases c2 with ⟨v, c2, c3⟩ | ⟨_, c2, c3⟩
        · subst c2
          obtain ⟨y, hy, hy1, hy2⟩ := hph
          have := ent_uniq h.nd hx hy (by rw [e, hy1])
          subst this
          rw [c3, b3, hy2]
        · subst c2
          exact absurd e (hph.1 x hx)
      · exact ⟨d, c', set_get b1 (fun e' => e e'.symm) _, b2, b3, b4, by omega, b6⟩
    · rcases hget hk with ⟨e1, e2⟩ | ⟨hkk, hk⟩
      · subst e1 e2
        obtain ⟨c0, c1, _, c2⟩ := he1 e he
        subst c1
        rcases c2 with ⟨v, c2, c3⟩ | ⟨c4, c2, c3⟩
        · subst c2
          obtain ⟨y, hy, hy1, hy2⟩ := hph
          exact .inl ⟨y, hy, hy1⟩
        · subst c2
          refine .inr ⟨by rw [hput1]; exact c4, c3, ?_⟩
          have := hph.2
          rw [hd.1, c0]
          exact hfull (hb k d0 hk0) this
      · rcases h.cov k d e hk he with h1 | ⟨h1, h2, h3⟩
        · exact .inl h1
        · exact .inr ⟨h1, h2, hfull (hb k d hk) h3⟩
    · rcases hget h1 with ⟨_, e1⟩ | ⟨_, h1⟩
      · rcases hget h2 with ⟨_, e2⟩ | ⟨_, h2⟩
        · rw [e2] at h3
          rw [e1, (he1 e h3).1, hd.1]; exact hb k0 d0 hk0
        · rw [e1, hd.1]
          rename_i e3 _ _
          have hx0 : x.k = k0 := by assumption
          exact hxy d0 dy e (by rw [hx0]; exact hk0) h2 h3
      · rcases hget h2 with ⟨_, e2⟩ | ⟨_, h2⟩
        · rw [e2] at h3
          rw [(he1 e h3).1]; exact hb _ dx h1
        · exact hxy dx dy e h1 h2 h3
    · intro hdd
      rcases hpp with rfl | ⟨e1, e2, e3, e4⟩
      · cases ph' with
        | no => exact hph
        | done v => exact hph
        | ref => exact ⟨hph.1, hph.2.mono (Nat.le_succ i)⟩
      · subst e1 e2
        exact ⟨hph, (h.full hph e4).mono (Nat.le_succ i)⟩
  -- a new effect
  have hnew : ph = .no → (∀ e, d1.e ≠ some e) → ∀ v, ph' = .done v → (isPut c = true → v = argV c) → (otell q l (isPut c) v).1 = v → l' = (otell q l (isPut c) v).2 → LI q N m P' (i + 1) (ths.set n p') (ds.set k0 d1) (H ++ [⟨k0, isPut c, v⟩]) l' := by
    intro e1 hne v e2 e3 e4 e5
    subst e1 e2 e5
    have hph : ∀ x ∈ H, x.k ≠ k0 := hph
    refine ⟨h.seq.snoc (x := ⟨k0, isPut c, v⟩) e4, ?_, fun x hx => ?_, hcallD, fun k d e hk he => ?_, ?_, hown ?_ (fun x h => List.mem_append_left _ h) (fun x h => ?_)⟩
    · rw [List.map_append, List.nodup_append]
      refine ⟨h.nd, by simp, fun a ha b hb2 => ?_⟩
      simp only [List.map_cons, List.map_nil, List.mem_singleton] at hb2
      obtain ⟨x, hx, rfl⟩ := List.mem_map.1 ha
      rw [hb2]; exact hph x hx
    · rcases List.mem_append.1 hx with hx | hx
      · obtain ⟨d, c', b1, b2, b3, b4, b5, b6⟩ := h.ent x hx
        exact ⟨d, c', set_get b1 (fun e' => hph x hx e'.symm) _, b2, b3, b4, by omega, b6⟩
      · rw [List.mem_singleton.1 hx]
        exact ⟨d1, c, set_at hk0 _, hcall, rfl, e3, by rw [hd.1]; exact Nat.lt_succ_of_le (hb k0 d0 hk0), fun e he => absurd he (hne e)⟩
    · rcases hget hk with ⟨f1, f2⟩ | ⟨hkk, hk⟩
      · subst f1 f2; exact absurd he (hne e)
      · rcases h.cov k d e hk he with ⟨x, h1, h2⟩ | ⟨h1, h2, h3⟩
        · exact .inl ⟨x, List.mem_append_left _ h1, h2⟩
        · exact .inr ⟨h1, h2, hfull (hb k d hk) h3⟩
    · rw [List.pairwise_append]
      refine ⟨h.rt.imp_of_mem fun {x y} hx hy hxy dx dy e h1 h2 h3 => ?_, by simp, fun x hx y hy dx dy e h1 h2 h3 => ?_⟩
      · rcases hget h1 with ⟨f1, _⟩ | ⟨_, h1⟩
        · exact absurd f1 (hph x hx)
        · rcases hget h2 with ⟨f1, _⟩ | ⟨_, h2⟩
          · exact absurd f1 (hph y hy)
          · exact hxy dx dy e h1 h2 h3
      · rw [List.mem_singleton.1 hy] at h2
        rcases hget h2 with ⟨_, f2⟩ | ⟨f1, _⟩
        · rw [f2] at h3; exact absurd h3 (hne e)
        · exact absurd rfl f1
    · intro _
      exact ⟨_, List.mem_append_right _ (List.mem_singleton.2 rfl), rfl, rfl⟩
    · rcases List.mem_append.1 h with h1 | h1
      · exact .inl h1
      · rw [List.mem_singleton.1 h1]; exact .inr rfl
  rcases heff with ⟨f1, f2⟩ | ⟨f1, f2, f3, f4⟩ | ⟨f1, f2, f3, f4⟩ | ⟨f1, f2, f3, f4, f5⟩
  · exact ⟨H, hsame f2 (.inl f1)⟩
  · have hne : ∀ e, d1.e ≠ some e := fun e he => by rw [(he1 e he).2.1, f1] at f3; cases f3
    exact ⟨_, hnew f1 hne _ f3 (fun _ => rfl) (by rw [f2]; rfl) (by rw [f4, f2]; rfl)⟩
  · have hne : ∀ e, d1.e ≠ some e := fun e he => by rw [(he1 e he).2.1, f1] at f3; cases f3
    exact ⟨_, hnew f1 hne _ f3 (fun hx => by rw [f2] at hx; cases hx) (by rw [f2]; exact rfl) (by rw [f4, f2]; rfl)⟩
  · exact ⟨H, hsame f4 (.inr ⟨f1, f3, f2, f5⟩)⟩
end
/-- what every run of an object keeps -/
theorem log_keeps {q : Bool} {N : Nat} {m : Mach} {P : List Int → VCall → Ph → Th → Prop} {G : List PT → List Int → List Int → Prop} (M : ObjM q N m P G) (l : List Nat) : PKeeps m l (fun i ths ws ds => ∃ H s, G ths ws s ∧ LI q N m (P ws) i ths ds H s) where
  idle := by
    rintro i s n hi hD ⟨H, x, hG, h⟩ hn
    refine ⟨H, x, hG, h.seq, h.nd, fun y hy => ?_, h.call, h.cov, h.rt, fun n nx ci t ht => ?_⟩
    · obtain ⟨d, c, b1, b2, b3, b4, b5, b6⟩ := h.ent y hy
      exact ⟨d, c, b1, b2, b3, b4, by omega, b6⟩
    · obtain ⟨a1, c, ph, a2, a3, a4, a5⟩ := h.th n nx ci t ht
      refine ⟨a1, c, ph, a2, a3, a4, fun k d hk h1 h2 => ?_⟩
      have := a5 k d hk h1 h2
      cases ph with
      | no => exact this
      | done v => exact this
      | ref => exact ⟨this.1, this.2.mono (Nat.le_succ i)⟩
  begin_ := by
    rintro i s n nx calls c hi hD ⟨H, x, hG, h⟩ hn hc hcc
    have hcall : callOf m n nx = some c := by unfold callOf; rw [hc]; exact hcc
    obtain ⟨hP, hG'⟩ := M.beg _ _ _ n nx c hG hn hcall
    have hb : ∀ (k : Nat) (d : Dg), (doings s.evs)[k]? = some d → d.b < i := fun k d hk => (hD.time k d hk).1
    have hHl : ∀ y ∈ H, y.k < (doings s.evs).length := fun y hy => by
      obtain ⟨d, c, b1, _⟩ := h.ent y hy
      exact (List.getElem?_eq_some_iff.1 b1).1
    refine ⟨H, x, hG', h.seq, h.nd, fun y hy => ?_, fun k d hk => ?_, fun k d e hk he => ?_, h.rt.imp_of_mem fun {y z} hy hz hyz dx dy e h1 h2 h3 => ?_, fun n' nx' ci t ht => ?_⟩
    · obtain ⟨d, c, b1, b2⟩ := h.ent y hy
      exact ⟨d, c, snoc_get b1 _, b2⟩
    · rcases get_snoc hk with hk | ⟨_, rfl⟩
      · exact h.call k d hk
      · exact ⟨c, hcall, M.call n nx c hcall⟩
    · rcases get_snoc hk with hk | ⟨_, rfl⟩
      · rcases h.cov k d e hk he with h1 | ⟨h1, h2, h3⟩
        · exact .inl h1
        · exact .inr ⟨h1, h2, h3.snoc _ rfl⟩
      · cases he
    · rcases get_snoc h1 with h1 | ⟨f1, _⟩
      · rcases get_snoc h2 with h2 | ⟨f1, _⟩
        · exact hyz dx dy e h1 h2 h3
        · have := hHl z hz; omega
      · have := hHl y hy; omega
    · rcases get_set ht with ⟨e1, e2⟩ | ⟨e1, e2⟩
      · injection e2 with e3 e4; injection e4 with e4; injection e4 with e4 e5
        subst e1 e3 e4 e5
        refine ⟨by omega, c, .no, by rw [Nat.add_sub_cancel]; exact hcall, rfl, hP, fun k d hk h1 h2 y hy => ?_⟩
        rw [Nat.add_sub_cancel] at h2
        rcases get_snoc hk with hk | ⟨f1, _⟩
        · obtain ⟨p, hp, h3, _⟩ := hD.lt k d hk
          rw [h1, hn] at hp; injection hp with hp; subst hp
          simp only at h3; omega
        · have := hHl y hy; omega
      · obtain ⟨a1, c', ph, a2, a3, a4, a5⟩ := h.th n' nx' ci t e2
        refine ⟨a1, c', ph, a2, a3, a4, fun k d hk h1 h2 => ?_⟩
        rcases get_snoc hk with hk | ⟨_, rfl⟩
        · have := a5 k d hk h1 h2
          cases ph with
          | no => exact this
          | done v => exact this
          | ref => exact ⟨this.1, this.2.snoc _ rfl⟩
        · exact absurd h1.symm e1
  cont := by
    rintro i s n nx ci t hi hD ⟨H, x, hG, h⟩ hn hov
    obtain ⟨k0, d0, hk0, ht0, hdc0, he0, _⟩ := hD.cur hn rfl
    have hdc0 : d0.c = nx - 1 := hdc0
    obtain ⟨a1, c, ph, a2, a3, a4, a5⟩ := h.th n nx ci t hn
    subst a3
    obtain ⟨nx, rfl⟩ : ∃ y, nx = y + 1 := ⟨nx - 1, by omega⟩
    rw [Nat.add_sub_cancel] at hdc0 a2 a5
    have hb : ∀ (k : Nat) (d : Dg), (doings s.evs)[k]? = some d → d.b ≤ i := fun k d hk => Nat.le_of_lt_succ (hD.time k d hk).1
    obtain ⟨hoP, ph', l', e1, e2⟩ := M.act _ _ _ n nx t c ph hG hn a2 a4
    rcases e2 with ⟨f1, f2, f3, f4⟩ | ⟨f1, _⟩
    · obtain ⟨H', hL⟩ := h.own hk0 hn ht0 he0 hoP (fun k d hk h1 h2 => hD.uniq k k0 d d0 hk hk0 (by rw [h1, ht0]) h2) hb ⟨nx + 1, some (c.code, (vstep (m.codes.getD c.code []) t s.words).1)⟩ d0 ⟨rfl, rfl, rfl⟩ (by rw [hdc0]; exact a2) (a5 k0 d0 hk0 ht0 hdc0) f2
        (fun ci t2 e => by injection e with e; injection e with g1 g2; subst g1 g2; exact ⟨rfl, by rw [hdc0], rfl, f3⟩) (fun e he => by rw [he0] at he; cases he)
      rw [setSelf hk0] at hL
      exact ⟨H', l', f4, hL⟩
    · rw [f1] at hov; cases hov
  fin_ := by
    rintro i s n nx ci t k0 d0 hi hD ⟨H, x, hG, h⟩ hn hov hk0 ht0 hdc0 he0 htold
    obtain ⟨a1, c, ph, a2, a3, a4, a5⟩ := h.th n nx ci t hn
    subst a3
    obtain ⟨nx, rfl⟩ : ∃ y, nx = y + 1 := ⟨nx - 1, by omega⟩
    rw [Nat.add_sub_cancel] at hdc0 a2 a5
    have hb : ∀ (k : Nat) (d : Dg), (doings s.evs)[k]? = some d → d.b ≤ i := fun k d hk => Nat.le_of_lt_succ (hD.time k d hk).1
    obtain ⟨hoP, ph', l', e1, e2⟩ := M.act _ _ _ n nx t c ph hG hn a2 a4
    rcases e2 with ⟨f1, _⟩ | ⟨f1, f2, f3, f4, f5⟩
    · rw [f1] at hov; cases hov
    · obtain ⟨H', hL⟩ := h.own hk0 hn ht0 he0 hoP (fun k d hk h1 h2 => hD.uniq k k0 d d0 hk hk0 (by rw [h1, ht0]) h2) hb ⟨nx + 1, none⟩ { d0 with e := some i, told := (vstep (m.codes.getD c.code []) t s.words).1.told } ⟨rfl, rfl, rfl⟩ (by rw [hdc0]; exact a2) (a5 k0 d0 hk0 ht0 hdc0) (.inl ⟨f2, f3⟩)
        (fun ci t2 e => by cases e) (fun e he => by injection he with he; exact ⟨he.symm, f2, f3, f4⟩)
      exact ⟨⟨H', l', f5, hL⟩, e1⟩
theorem log_play {q : Bool} {N : Nat} {m : Mach} {P : List Int → VCall → Ph → Th → Prop} {G : List PT → List Int → List Int → Prop} (M : ObjM q N m P G) (hG : G (pinit m).ths m.words []) (l : List Nat) :
    (∃ H s, G (play m l).ths (play m l).words s ∧ LI q N m (P (play m l).words) l.length (play m l).ths (doings (play m l).evs) H s) ∧ NoErr (play m l).evs := by
  refine (log_keeps M l).play ⟨[], [], hG, rfl, by simp, fun x hx => by simp at hx, fun k d h => by simp at h, fun k d e h => by simp at h, by simp, fun n nx ci t h => ?_⟩
  unfold pinit at h
  simp only [List.getElem?_replicate] at h
  split at h
  · injection h with h; injection h with _ h; cases h
  · cases h
end

section
open Go.RowKit
/-- the call i: it takes, or puts its number -/
def ocall (off : Nat) (kinds : List Bool) (i : Nat) : VCall := if kinds.getD i false = true then ⟨1, []⟩ else ⟨0, [((off + i : Nat) : Int)]⟩
/-- the calls of thread j among the first n -/
def oths (off : Nat) (kinds : List Bool) : Nat → Nat → List VCall
  | 0, _ => []
  | n + 1, j => if n % 3 = j then oths off kinds n j ++ [ocall off kinds n] else oths off kinds n j
theorem oths_len (off : Nat) (kinds : List Bool) : ∀ (n j : Nat), j < 3 → (oths off kinds n j).length = (n + 2 - j) / 3
  | 0, j, h => by unfold oths; simp; omega
  | n + 1, j, h => by
    have ih := oths_len off kinds n j h
    unfold oths
    split
    · rw [List.length_append, ih, List.length_singleton]; omega
    · rw [ih]; omega
theorem oths_at (off : Nat) (kinds : List Bool) : ∀ (n j c : Nat), j < 3 → (oths off kinds n j)[c]? = if 3 * c + j < n then some (ocall off kinds (3 * c + j)) else none
  | 0, j, c, h => by unfold oths; simp
  | n + 1, j, c, h => by
    have ih := oths_at off kinds n j c h
    have hl := oths_len off kinds n j h
    unfold oths
    split
    · rw [List.getElem?_append, hl, ih]
      by_cases h1 : c < (n + 2 - j) / 3
      · rw [if_pos h1, if_pos (by omega), if_pos (by omega)]
      · rw [if_neg h1, List.getElem?_singleton]
        by_cases h2 : c = (n + 2 - j) / 3
        · rw [if_pos (by omega), if_pos (by omega), show 3 * c + j = n by omega]
        · rw [if_neg (by omega), if_neg (by omega)]
    · rw [ih]
      by_cases h1 : 3 * c + j < n
      · rw [if_pos h1, if_pos (by omega)]
      · rw [if_neg h1, if_neg (by omega)]
theorem oths_mem (off : Nat) (kinds : List Bool) : ∀ (n j : Nat) (c : VCall), c ∈ oths off kinds n j → ∃ i, i < n ∧ c = ocall off kinds i
  | 0, _, c, h => by cases h
  | n + 1, j, c, h => by
    unfold oths at h
    split at h
    · rcases List.mem_append.1 h with h | h
      · obtain ⟨i, h1, h2⟩ := oths_mem off kinds n j c h; exact ⟨i, by omega, h2⟩
      · exact ⟨n, by omega, List.mem_singleton.1 h⟩
    · obtain ⟨i, h1, h2⟩ := oths_mem off kinds n j c h; exact ⟨i, by omega, h2⟩
theorem oths_upd (off : Nat) (kinds : List Bool) {k j : Nat} (hj : k % 3 = j) : upd (oths off kinds k) j (oths off kinds k j ++ [ocall off kinds k]) = oths off kinds (k + 1) := by
  subst hj
  funext j
  unfold upd
  rw [show oths off kinds (k + 1) j = if k % 3 = j then oths off kinds k j ++ [ocall off kinds k] else oths off kinds k j from rfl]
  by_cases h : j = k % 3
  · subst h; simp
  · rw [if_neg h, if_neg (fun e => h e.symm)]
def omach (ws : List Int) (k1 k2 : List Op5) (off : Nat) (kinds : List Bool) (calls : Nat) : Mach := ⟨ws, [k1, k2], (List.range 3).map (oths off kinds calls)⟩
theorem oths_ok (off : Nat) (kinds : List Bool) {calls : Nat} (hc : calls ≤ 57) (j : Nat) (hj : j < 3) : (oths off kinds calls j).length ≤ 20 ∧ ∀ c ∈ oths off kinds calls j, c.code < 2 ∧ c.args.length ≤ 8 := by
  refine ⟨by rw [oths_len off kinds calls j hj]; omega, fun c hc' => ?_⟩
  obtain ⟨i, _, rfl⟩ := oths_mem off kinds calls j c hc'
  unfold ocall
  split
  · exact ⟨by simp, by simp⟩
  · exact ⟨by simp, by simp⟩
theorem omach_at {B : Nat} {w : World} {Cb T : Nat} {cv tv : Nat → Value} {av : Nat → List SV} {ws : List Int} {k1 k2 : List Op5} {off : Nat} {kinds : List Bool} {calls : Nat} (h : MN B w 2 3 Cb T cv (fun i => [k1, k2].getD i []) tv (oths off kinds calls) av)
    (l1 : k1.length ≤ 200) (l2 : k2.length ≤ 200) (s1 : ∀ o ∈ k1, OpSh k1.length o) (s2 : ∀ o ∈ k2, OpSh k2.length o) (hc : calls ≤ 57) : MachAt w (some ⟨Cb, 0, none⟩) 2 (some ⟨T, 0, none⟩) 3 (omach ws k1 k2 off kinds calls) := by
  refine h.at_ rfl rfl (fun i hi => ?_) (fun j hj => oths_ok off kinds hc j hj)
  rcases (show i = 0 ∨ i = 1 by omega) with rfl | rfl
  · exact ⟨l1, s1⟩
  · exact ⟨l2, s2⟩
end

section
open Go.RowKit
/-! ### the calls of a thread are one behind the other -/
def SeqDs (ds : List Dg) : Prop := ∀ (j k : Nat) (d d' : Dg), ds[j]? = some d → ds[k]? = some d' → d.t = d'.t → d.c < d'.c → j < k ∧ ∃ e, d.e = some e ∧ e < d'.b
theorem PKeeps.withSeq {m : Mach} {l : List Nat} {I : Nat → List PT → List Int → List Dg → Prop} (K : PKeeps m l I) : PKeeps m l (fun i ths ws ds => I i ths ws ds ∧ SeqDs ds) where
  idle := fun i s n hi hD h hn => ⟨K.idle i s n hi hD h.1 hn, h.2⟩
  begin_ := by
    intro i s n nx calls c hi hD h hn hc hcc
    refine ⟨K.begin_ i s n nx calls c hi hD h.1 hn hc hcc, fun j k d d' hj hk ht hlt => ?_⟩
    rcases get_snoc hj with hj | ⟨_, rfl⟩
    · rcases get_snoc hk with hk | ⟨e1, rfl⟩
      · exact h.2 j k d d' hj hk ht hlt
      · have hl := (List.getElem?_eq_some_iff.1 hj).1
        refine ⟨by omega, ?_⟩
        cases he : d.e with
        | none => exact absurd ht (hD.rest hn hj he)
        | some e => exact ⟨e, rfl, ((hD.time j d hj).2 e he).2⟩
    · rcases get_snoc hk with hk | ⟨_, rfl⟩
      · obtain ⟨p, hp, h1, _⟩ := hD.lt k d' hk
        have ht : n = d'.t := ht
        rw [← ht, hn] at hp
        injection hp with hp; subst hp
        simp only at h1 hlt; omega
      · exact absurd hlt (Nat.lt_irrefl _)
  cont := fun i s n nx ci t hi hD h hn hov => ⟨K.cont i s n nx ci t hi hD h.1 hn hov, h.2⟩
  fin_ := by
    intro i s n nx ci t k0 d0 hi hD h hn hov hk0 ht0 hdc0 he0 htold
    obtain ⟨h1, h2⟩ := K.fin_ i s n nx ci t k0 d0 hi hD h.1 hn hov hk0 ht0 hdc0 he0 htold
    refine ⟨⟨h1, fun j k d d' hj hk ht hlt => ?_⟩, h2⟩
    have key : ∀ {j : Nat} {d : Dg}, ((doings s.evs).set k0 { d0 with e := some i, told := (vstep (m.codes.getD ci []) t s.words).1.told })[j]? = some d → ∃ d1, (doings s.evs)[j]? = some d1 ∧ d1.b = d.b ∧ d1.t = d.t ∧ d1.c = d.c ∧ (d1.e = none ∨ d1.e = d.e) := by
      intro j d hj
      rcases get_set hj with ⟨rfl, rfl⟩ | ⟨_, hj⟩
      · exact ⟨d0, hk0, rfl, rfl, rfl, .inl he0⟩
      · exact ⟨d, hj, rfl, rfl, rfl, .inr rfl⟩
    obtain ⟨d1, a1, a2, a3, a4, a5⟩ := key hj
    obtain ⟨d2, b1, b2, b3, b4, b5⟩ := key hk
    obtain ⟨c1, e, c2, c3⟩ := h.2 j k d1 d2 a1 b1 (by rw [a3, b3, ht]) (by rw [a4, b4]; exact hlt)
    refine ⟨c1, e, ?_, by rw [← b2]; exact c3⟩
    rcases a5 with a5 | a5
    · rw [a5] at c2; cases c2
    · rw [← a5]; exact c2
/-- what every run of an object comes to -/
theorem log_play2 {q : Bool} {N : Nat} {m : Mach} {P : List Int → VCall → Ph → Th → Prop} {G : List PT → List Int → List Int → Prop} (M : ObjM q N m P G) (hG : G (pinit m).ths m.words []) (l : List Nat) :
    (∃ H s, G (play m l).ths (play m l).words s ∧ LI q N m (P (play m l).words) l.length (play m l).ths (doings (play m l).evs) H s) ∧ SeqDs (doings (play m l).evs) ∧ NoErr (play m l).evs := by
  have h := (log_keeps M l).withSeq.play ⟨⟨[], [], hG, rfl, by simp, fun x hx => by simp at hx, fun k d h => by simp at h, fun k d e h => by simp at h, by simp, fun n nx ci t h => ?_⟩, fun j k d d' h => by simp at h⟩
  · exact ⟨h.1.1, h.1.2, h.2⟩
  · unfold pinit at h
    simp only [List.getElem?_replicate] at h
    split at h
    · injection h with h; injection h with _ h; cases h
    · cases h
/-! ### the queue -/
/-- a machine whose calls put small numbers into a queue of N places, or take -/
structure QM (N : Nat) (m : Mach) : Prop where
  ws : m.words = [0]
  c0 : m.codes.getD 0 [] = qputCode N
  c1 : m.codes.getD 1 [] = qtakeCode
  call : ∀ (n nx : Nat) (c : VCall), callOf m n nx = some c → c = ⟨1, []⟩ ∨ ∃ v, c = ⟨0, [v]⟩ ∧ 0 ≤ v ∧ v < 64
def QP (N : Nat) (c : VCall) (ph : Ph) (t : Th) : Prop := (∃ v, c = ⟨0, [v]⟩ ∧ 0 ≤ v ∧ v < 64 ∧ QPut N v ph t) ∨ (c = ⟨1, []⟩ ∧ QTake N ph t)
theorem queue_obj {N : Nat} {m : Mach} (hN : 1 ≤ N ∧ N ≤ 8) (M : QM N m) : ObjM true N m (fun _ => QP N) (fun _ ws l => ws = [qenc l] ∧ QV N l) where
  call := fun n nx c h => by
    rcases M.call n nx c h with rfl | ⟨v, rfl, h1, h2⟩
    · exact .inr ⟨rfl, rfl⟩
    · exact .inl ⟨rfl, v, rfl, h1⟩
  beg := fun ths ws l n nx c hG hn hc => by
    refine ⟨?_, hG⟩
    rcases M.call n nx c hc with rfl | ⟨v, rfl, h1, h2⟩
    · refine .inr ⟨rfl, ?_⟩
      show QTake N .no (vbegin (m.codes.getD 1 []).length [])
      rw [M.c1]
      exact .t0
    · refine .inl ⟨v, rfl, h1, h2, ?_⟩
      show QPut N v .no (vbegin (m.codes.getD 0 []).length [v])
      rw [M.c0]
      exact .p0
  act := fun ths ws l n nx t c ph hG hn hc hP => by
    obtain ⟨hw, hl⟩ := hG
    rw [hw]
    refine ⟨fun n' nx' t' c' ph'' _ _ _ h => h, ?_⟩
    rcases hP with ⟨v, rfl, h1, h2, hP⟩ | ⟨rfl, hP⟩
    · have hs := qput_step hN ⟨h1, h2⟩ hP hl
      show ∃ ph' l', (vstep (m.codes.getD 0 []) t [qenc l]).1.err = 0 ∧ _
      rw [M.c0]
      obtain ⟨ph', l', e1, e2, e3, e4⟩ := hs
      refine ⟨ph', l', e3, ?_⟩
      rcases e4 with ⟨f1, f2, f3⟩ | ⟨f1, f2, f3, f4⟩
      · exact .inl ⟨f1, f2, .inl ⟨v, rfl, h1, h2, f3⟩, e1, e2⟩
      · exact .inr ⟨f1, f2, f3, f4, e1, e2⟩
    · have hs := qtake_step hN hP hl
      show ∃ ph' l', (vstep (m.codes.getD 1 []) t [qenc l]).1.err = 0 ∧ _
      rw [M.c1]
      obtain ⟨ph', l', e1, e2, e3, e4⟩ := hs
      refine ⟨ph', l', e3, ?_⟩
      rcases e4 with ⟨f1, f2, f3⟩ | ⟨f1, f2, f3, f4⟩
      · exact .inl ⟨f1, f2, .inr ⟨rfl, f3⟩, e1, e2⟩
      · exact .inr ⟨f1, f2, f3, f4, e1, e2⟩
theorem queue_play {N : Nat} {m : Mach} (hN : 1 ≤ N ∧ N ≤ 8) (M : QM N m) (l : List Nat) :
    (∃ H s, LI true N m (QP N) l.length (play m l).ths (doings (play m l).evs) H s) ∧ SeqDs (doings (play m l).evs) ∧ NoErr (play m l).evs := by
  obtain ⟨⟨H, s, _, h⟩, h2, h3⟩ := log_play2 (queue_obj hN M) (by rw [M.ws]; exact ⟨rfl, Nat.zero_le _, fun x hx => by cases hx⟩) l
  exact ⟨⟨H, s, h⟩, h2, h3⟩
theorem ocallOf {ws : List Int} {k1 k2 : List Op5} {off : Nat} {kinds : List Bool} {calls n nx : Nat} {c : VCall} (h : callOf (omach ws k1 k2 off kinds calls) n nx = some c) : n < 3 ∧ 3 * nx + n < calls ∧ c = ocall off kinds (3 * nx + n) := by
  unfold callOf omach at h
  simp only at h
  rw [List.getElem?_map] at h
  obtain ⟨l, hl, h⟩ := Option.bind_eq_some_iff.1 h
  obtain ⟨u, hu, rfl⟩ := Option.map_eq_some_iff.1 hl
  have hn : n < 3 := by simpa using (List.getElem?_eq_some_iff.1 hu).1
  obtain rfl : n = u := by
    obtain ⟨h1, h2⟩ := List.getElem?_eq_some_iff.1 hu
    simpa using h2
  rw [oths_at off kinds calls n nx hn] at h
  split at h
  · injection h with h; exact ⟨hn, by assumption, h.symm⟩
  · cases h
theorem omach_qm {N off calls : Nat} {kinds : List Bool} (h : off + calls ≤ 64) : QM N (omach [0] (qputCode N) qtakeCode off kinds calls) where
  ws := rfl
  c0 := rfl
  c1 := rfl
  call := fun n nx c hc => by
    obtain ⟨h1, h2, rfl⟩ := ocallOf hc
    unfold ocall
    split
    · exact .inl rfl
    · exact .inr ⟨_, rfl, by omega, by omega⟩
/-! ### order -/
def putsV (H : List Lg) : List Int := (H.filter fun x => x.put).map Lg.v
def takesV (H : List Lg) : List Int := (H.filter fun x => !x.put && x.v != -1).map Lg.v
theorem oseq_queue : ∀ {H : List Lg} {has l : List Int}, OSeq true has H l → (∀ y ∈ has, y ≠ -1) → (∀ x ∈ H, x.put = true → x.v ≠ -1) → has ++ putsV H = takesV H ++ l
  | [], has, l, h, _, _ => by
    have h : l = has := h
    subst h; simp [putsV, takesV]
  | x :: H, has, l, h, h1, h2 => by
    obtain ⟨a, b⟩ := h
    have h2' := fun y hy => h2 y (List.mem_cons_of_mem x hy)
    cases hp : x.put with
    | true =>
      rw [hp] at a b
      have ih := oseq_queue b (fun y hy => by
        rcases List.mem_append.1 (show y ∈ has ++ [x.v] from hy) with h3 | h3
        · exact h1 y h3
        · rw [List.mem_singleton.1 h3]; exact h2 x List.mem_cons_self hp) h2'
      have e : (otell true has true x.v).2 = has ++ [x.v] := rfl
      rw [e] at ih
      unfold putsV takesV at ih ⊢
      rw [List.filter_cons_of_pos (by simpa using hp), List.filter_cons_of_neg (by simp [hp]), List.map_cons, ← ih]
      simp
    | false =>
      rw [hp] at a b
      match has, h1, a, b with
      | [], h1, a, b =>
        have a : (-1 : Int) = x.v := a
        have ih := oseq_queue b (fun y hy => by cases hy) h2'
        unfold putsV takesV at ih ⊢
        rw [List.filter_cons_of_neg (by simp [hp]), List.filter_cons_of_neg (by simp [← a])]
        exact ih
      | z :: has, h1, a, b =>
        have a : z = x.v := a
        have hz := h1 z List.mem_cons_self
        have ih := oseq_queue b (fun y hy => h1 y (List.mem_cons_of_mem _ hy)) h2'
        unfold putsV takesV at ih ⊢
        rw [List.filter_cons_of_neg (by simp [hp]), List.filter_cons_of_pos (by simp [hp, ← a, hz]), List.map_cons, List.cons_append, List.cons_append, ← ih, ← a]
        rfl
end

section
open Go.RowKit
def loadedB (ths : List PT) (d : Dg) : Bool := match d.e with | some _ => true | none => (match thOf ths d.t with | some t => decide (t.pc = 1) | none => false)
def getOf (ths : List PT) (d : Dg) : Int := match d.e with | some _ => d.told.getD 0 0 | none => (match thOf ths d.t with | some t => t.regs.getD 0 0 | none => 0)
/-- a call that has had its effect, and the number on which it had it -/
def eff (m : Mach) (ths : List PT) (d : Dg) : Bool := if argOf m d = 0 then loadedB ths d else addedB ths d
def keyOf (m : Mach) (ths : List PT) (d : Dg) : Int := if argOf m d = 0 then getOf ths d else oldOf ths d
theorem eff_frame {m : Mach} {ths : List PT} {n : Nat} {d : Dg} (p : PT) (h : d.e = none → d.t ≠ n) : eff m (ths.set n p) d = eff m ths d ∧ keyOf m (ths.set n p) d = keyOf m ths d := by
  have h1 := added_frame (ths := ths) p h
  have h2 : loadedB (ths.set n p) d = loadedB ths d ∧ getOf (ths.set n p) d = getOf ths d := by
    unfold loadedB getOf
    cases he : d.e with
    | some e => exact ⟨rfl, rfl⟩
    | none => simp only; rw [thOf_ne p (h he)]; exact ⟨rfl, rfl⟩
  unfold eff keyOf
  rw [h1.1, h1.2, h2.1, h2.2]
  exact ⟨rfl, rfl⟩
theorem eff_done {m : Mach} {ths : List PT} {d : Dg} {e : Nat} (he : d.e = some e) : eff m ths d = true ∧ keyOf m ths d = d.told.getD 0 0 := by
  have h1 := added_done (ths := ths) he
  have h2 : loadedB ths d = true ∧ getOf ths d = d.told.getD 0 0 := by unfold loadedB getOf; rw [he]; exact ⟨rfl, rfl⟩
  unfold eff keyOf
  rw [h1.1, h1.2, h2.1, h2.2]
  constructor <;> split <;> rfl
theorem eff_own {m : Mach} {ths : List PT} {d : Dg} {t : Th} (he : d.e = none) (ht : thOf ths d.t = some t) :
    eff m ths d = (if argOf m d = 0 then decide (t.pc = 1) else addedT t) ∧ keyOf m ths d = (if argOf m d = 0 then t.regs.getD 0 0 else t.regs.getD 1 0) := by
  have h1 := added_own (ths := ths) he ht
  have h2 : loadedB ths d = decide (t.pc = 1) ∧ getOf ths d = t.regs.getD 0 0 := by unfold loadedB getOf; rw [he]; simp only; rw [ht]; exact ⟨rfl, rfl⟩
  unfold eff keyOf
  rw [h1.1, h1.2, h2.1, h2.2]
  exact ⟨rfl, rfl⟩
structure KL (m : Mach) (i : Nat) (ths : List PT) (v : Int) (ds : List Dg) : Prop where
  kv : KV m i ths v ds
  pos : ∀ (k : Nat) (d : Dg), ds[k]? = some d → 0 ≤ argOf m d
  top : ∀ (k : Nat) (d : Dg), ds[k]? = some d → eff m ths d = true → 0 ≤ keyOf m ths d ∧ keyOf m ths d + argOf m d ≤ v
  cov : ∀ h : Int, 0 ≤ h → h < v → ∃ (k : Nat) (d : Dg), ds[k]? = some d ∧ eff m ths d = true ∧ 1 ≤ argOf m d ∧ keyOf m ths d ≤ h ∧ h < keyOf m ths d + argOf m d
  rt : ∀ (j k : Nat) (d d' : Dg) (e : Nat), ds[j]? = some d → ds[k]? = some d' → d.e = some e → e < d'.b → eff m ths d' = true → keyOf m ths d + argOf m d ≤ keyOf m ths d'
  dis2 : ∀ (j k : Nat) (d d' : Dg), j ≠ k → ds[j]? = some d → ds[k]? = some d' → eff m ths d = true → eff m ths d' = true → keyOf m ths d + argOf m d ≤ keyOf m ths d' ∨ keyOf m ths d' + argOf m d' ≤ keyOf m ths d
theorem KL.own {m : Mach} {i n : Nat} {ths : List PT} {v : Int} {ds : List Dg} (h : KL m i ths v ds) {k0 : Nat} {d0 : Dg} {p0 : PT} (hk0 : ds[k0]? = some d0) (hn : ths[n]? = some p0) (ht0 : d0.t = n)
    (hown : ∀ (k : Nat) (d : Dg), ds[k]? = some d → k ≠ k0 → d.e = none → d.t ≠ n) (hb : ∀ (k : Nat) (d : Dg), ds[k]? = some d → d.b ≤ i) (p' : PT) (d1 : Dg) (hd1 : d1.t = d0.t) (hc1 : d1.c = d0.c) (hb1 : d1.b = d0.b) (he1 : ∀ e, d1.e = some e → e = i) (he0 : d0.e = none) (v' : Int)
    (hkv : KV m (i + 1) (ths.set n p') v' (ds.set k0 d1))
    (hc : (v' = v ∧ eff m (ths.set n p') d1 = eff m ths d0 ∧ (eff m ths d0 = true → keyOf m (ths.set n p') d1 = keyOf m ths d0)) ∨ (eff m ths d0 = false ∧ eff m (ths.set n p') d1 = true ∧ keyOf m (ths.set n p') d1 = v ∧ v' = v + argOf m d0)) :
    KL m (i + 1) (ths.set n p') v' (ds.set k0 d1) := by
  have ha : argOf m d1 = argOf m d0 := by unfold argOf; rw [hd1, hc1]
  have hfr : ∀ {k : Nat} {d : Dg}, ds[k]? = some d → k ≠ k0 → eff m (ths.set n p') d = eff m ths d ∧ keyOf m (ths.set n p') d = keyOf m ths d := fun hk hne => eff_frame p' (hown _ _ hk hne)
  have hp0 := h.pos k0 d0 hk0
  have hv0 := h.kv.v0.1
  have hvv : v ≤ v' := by rcases hc with ⟨e, _⟩ | ⟨_, _, _, e⟩ <;> omega
  refine ⟨hkv, fun k d hk => ?_, fun k d hk he => ?_, fun x hx0 hxv => ?_, fun j k d d' e hj hk he hlt hef => ?_, fun j k d d' hjk hj hk g1 g2 => ?_⟩
  · rcases get_set hk with ⟨_, rfl⟩ | ⟨_, hk⟩
    · rw [ha]; exact hp0
    · exact h.pos k d hk
  · rcases get_set hk with ⟨_, rfl⟩ | ⟨hne, hk⟩
    · rw [ha]
      rcases hc with ⟨e, e1, e2⟩ | ⟨e1, e2, e3, e4⟩
      · rw [e1] at he
        rw [e2 he, e]
        exact h.top k0 d0 hk0 he
      · rw [e3]; omega
    · rw [(hfr hk hne).1] at he
      rw [(hfr hk hne).2]
      have := h.top k d hk he
      omega
  · have old : x < v → ∃ (k : Nat) (d : Dg), (ds.set k0 d1)[k]? = some d ∧ eff m (ths.set n p') d = true ∧ 1 ≤ argOf m d ∧ keyOf m (ths.set n p') d ≤ x ∧ x < keyOf m (ths.set n p') d + argOf m d := by
      intro hlt
      obtain ⟨k, d, a1, a2, a3, a4, a5⟩ := h.cov x hx0 hlt
      by_cases e : k = k0
      · subst e
        rw [hk0] at a1; injection a1 with a1; subst a1
        refine ⟨k, d1, set_at hk0 _, ?_⟩
        rw [ha]
        rcases hc with ⟨_, e1, e2⟩ | ⟨e1, _⟩
        · rw [e1, e2 a2]; exact ⟨a2, a3, a4, a5⟩
        · rw [e1] at a2; cases a2
      · refine ⟨k, d, set_get a1 (fun e' => e e'.symm) _, ?_⟩
        rw [(hfr a1 e).1, (hfr a1 e).2]
        exact ⟨a2, a3, a4, a5⟩
    by_cases hlt : x < v
    · exact old hlt
    · rcases hc with ⟨e, _⟩ | ⟨e1, e2, e3, e4⟩
      · omega
      · refine ⟨k0, d1, set_at hk0 _, e2, ?_⟩
        rw [ha, e3]; omega
  · rcases get_set hj with ⟨_, e1⟩ | ⟨hne, hj2⟩
    · have := he1 e (by rw [← e1]; exact he)
      subst this
      rcases get_set hk with ⟨_, e2⟩ | ⟨hne2, hk2⟩
      · rw [e2, hb1] at hlt
        have := hb k0 d0 hk0; omega
      · have := hb k d' hk2; omega
    · rw [(hfr hj2 hne).2]
      rcases get_set hk with ⟨_, e2⟩ | ⟨hne2, hk2⟩
      · subst e2
        rcases hc with ⟨_, e1, e2⟩ | ⟨e1, e2, e3, e4⟩
        · rw [e1] at hef
          rw [e2 hef]
          exact h.rt j k0 d d0 e hj2 hk0 he (by rw [hb1] at hlt; exact hlt) hef
        · rw [e3]
          exact (h.top j d hj2 (eff_done he).1).2
      · rw [(hfr hk2 hne2).1] at hef
        rw [(hfr hk2 hne2).2]
        exact h.rt j k d d' e hj2 hk2 he hlt hef
  · have key : ∀ {k : Nat} {d : Dg}, ds[k]? = some d → k ≠ k0 → eff m (ths.set n p') d = true → eff m (ths.set n p') d1 = true → keyOf m (ths.set n p') d + argOf m d ≤ keyOf m (ths.set n p') d1 ∨ keyOf m (ths.set n p') d1 + argOf m d1 ≤ keyOf m (ths.set n p') d := by
      intro k d hk hne b1 b2
      rw [(hfr hk hne).1] at b1
      rw [(hfr hk hne).2, ha]
      rcases hc with ⟨_, e1, e2⟩ | ⟨e1, e2, e3, e4⟩
      · rw [e1] at b2
        rw [e2 b2]
        exact h.dis2 k k0 d d0 hne hk hk0 b1 b2
      · rw [e3]
        exact .inl (h.top k d hk b1).2
    rcases get_set hj with ⟨e1, e1'⟩ | ⟨hne, hj2⟩
    · rcases get_set hk with ⟨e2, e2'⟩ | ⟨hne2, hk2⟩
      · omega
      · subst e1'
        exact (key hk2 hne2 g2 g1).symm
    · rcases get_set hk with ⟨e2, e2'⟩ | ⟨hne2, hk2⟩
      · subst e2'
        exact key hj2 hne g1 g2
      · rw [(hfr hj2 hne).1] at g1
        rw [(hfr hk2 hne2).1] at g2
        rw [(hfr hj2 hne).2, (hfr hk2 hne2).2]
        exact h.dis2 j k d d' hjk hj2 hk2 g1 g2
def KLI (m : Mach) (i : Nat) (ths : List PT) (ws : List Int) (ds : List Dg) : Prop := ∃ v, ws = [v] ∧ KL m i ths v ds
theorem arg_pos {m : Mach} {d : Dg} {c : VCall} (h : callOf m d.t d.c = some c) (hc : OkCall c) : (c = ⟨1, []⟩ ∧ argOf m d = 0) ∨ (c ≠ ⟨1, []⟩ ∧ 1 ≤ argOf m d) := by
  unfold argOf
  rw [h]
  rcases hc with rfl | ⟨a, rfl, h1, _⟩
  · exact .inl ⟨rfl, rfl⟩
  · exact .inr ⟨by simp, h1⟩
theorem lin_keeps {m : Mach} (hm : CntM m) (l : List Nat) (hl : l.length ≤ 6000) : PKeeps m l (KLI m) where
  idle := by
    rintro i s n hi hD ⟨v, hv, h⟩ hn
    exact ⟨v, hv, h.kv.up, h.pos, h.top, h.cov, h.rt, h.dis2⟩
  begin_ := by
    rintro i s n nx calls c hi hD ⟨v, hv, h⟩ hn hc hcc
    obtain ⟨v2, hv2, hkv⟩ := (count_keeps hm l hl).begin_ i s n nx calls c hi hD ⟨v, hv, h.kv⟩ hn hc hcc
    have e : v2 = v := by rw [hv] at hv2; injection hv2 with hv2; exact hv2.symm
    subst e
    have hcall : callOf m n nx = some c := by unfold callOf; rw [hc]; exact hcc
    have hok := hm.call n calls nx c hc hcc
    have hrest : ∀ {k : Nat} {d : Dg}, (doings s.evs)[k]? = some d → d.e = none → d.t ≠ n := fun hk he => hD.rest hn hk he
    have hfr : ∀ {k : Nat} {d : Dg}, (doings s.evs)[k]? = some d → eff m (s.ths.set n ⟨nx + 1, some (c.code, vbegin (m.codes.getD c.code []).length c.args)⟩) d = eff m s.ths d ∧ keyOf m (s.ths.set n ⟨nx + 1, some (c.code, vbegin (m.codes.getD c.code []).length c.args)⟩) d = keyOf m s.ths d := fun hk => eff_frame _ (hrest hk)
    have hap := arg_pos (m := m) (d := ⟨i, none, n, nx, []⟩) hcall hok
    have hnew : eff m (s.ths.set n ⟨nx + 1, some (c.code, vbegin (m.codes.getD c.code []).length c.args)⟩) ⟨i, none, n, nx, []⟩ = false := by
      rw [(eff_own (m := m) (ths := s.ths.set n _) (d := ⟨i, none, n, nx, []⟩) rfl (thOf_at hn _)).1]
      rcases hok with rfl | ⟨a, rfl, h1, h2⟩
      · rw [if_pos (by rcases hap with ⟨_, h⟩ | ⟨h, _⟩; exact h; exact absurd rfl h)]; rfl
      · rw [if_neg (by rcases hap with ⟨h, _⟩ | ⟨_, h⟩; cases h; omega)]
        show addedT (vbegin (m.codes.getD 0 []).length [a]) = false
        rw [hm.c0, add_begin]; rfl
    refine ⟨v2, hv, hkv, fun k d hk => ?_, fun k d hk he => ?_, fun x h0 h1 => ?_, fun j k d d' e hj hk he hlt hef => ?_, fun j k d d' hjk hj hk g1 g2 => ?_⟩
    · rcases get_snoc hk with hk | ⟨_, rfl⟩
      · exact h.pos k d hk
      · rcases hap with ⟨_, h⟩ | ⟨_, h⟩ <;> omega
    · rcases get_snoc hk with hk | ⟨_, rfl⟩
      · rw [(hfr hk).1] at he
        rw [(hfr hk).2]
        exact h.top k d hk he
      · rw [hnew] at he; cases he
    · obtain ⟨k, d, a1, a2, a3, a4, a5⟩ := h.cov x h0 h1
      refine ⟨k, d, snoc_get a1 _, ?_⟩
      rw [(hfr a1).1, (hfr a1).2]
      exact ⟨a2, a3, a4, a5⟩
    · rcases get_snoc hj with hj | ⟨_, rfl⟩
      · rcases get_snoc hk with hk | ⟨_, rfl⟩
        · rw [(hfr hk).1] at hef
          rw [(hfr hj).2, (hfr hk).2]
          exact h.rt j k d d' e hj hk he hlt hef
        · rw [hnew] at hef; cases hef
      · cases he
    · rcases get_snoc hj with hj | ⟨_, rfl⟩
      · rcases get_snoc hk with hk | ⟨_, rfl⟩
        · rw [(hfr hj).1] at g1
          rw [(hfr hk).1] at g2
          rw [(hfr hj).2, (hfr hk).2]
          exact h.dis2 j k d d' hjk hj hk g1 g2
        · rw [hnew] at g2; cases g2
      · rw [hnew] at g1; cases g1
  cont := by
    rintro i s n nx ci t hi hD ⟨v, hv, h⟩ hn hov
    obtain ⟨v2, hv2, hkv⟩ := (count_keeps hm l hl).cont i s n nx ci t hi hD ⟨v, hv, h.kv⟩ hn hov
    have hv0 := h.kv.v0
    have hi6 : i < 6000 := Nat.lt_of_lt_of_le (List.getElem?_eq_some_iff.1 hi).1 hl
    obtain ⟨hnx, c, hcall, htf⟩ := h.kv.th n nx ci t hn
    obtain ⟨k0, d0, hk0, ht0, hdc0, he0, _⟩ := hD.cur hn rfl
    have hdc0 : d0.c = nx - 1 := hdc0
    have hown : ∀ (k : Nat) (d : Dg), (doings s.evs)[k]? = some d → k ≠ k0 → d.e = none → d.t ≠ n := fun k d hk hne he e => hne (hD.own hn hk hk0 e ht0 he he0)
    have hst : (doings s.evs).set k0 d0 = doings s.evs := setSelf hk0
    have hb : ∀ (k : Nat) (d : Dg), (doings s.evs)[k]? = some d → d.b ≤ i := fun k d hk => Nat.le_of_lt_succ (hD.time k d hk).1
    have harg : argOf m d0 = c.args.getD 0 0 := by unfold argOf; rw [ht0, hdc0, hcall]
    have o0 := eff_own (m := m) he0 (by rw [ht0]; exact thOf_get hn)
    refine ⟨v2, hv2, ?_⟩
    have go : ((v2 = v ∧ (if argOf m d0 = 0 then decide ((vstep (m.codes.getD ci []) t s.words).1.pc = 1) else addedT (vstep (m.codes.getD ci []) t s.words).1) = (if argOf m d0 = 0 then decide (t.pc = 1) else addedT t) ∧ ((if argOf m d0 = 0 then decide (t.pc = 1) else addedT t) = true → (if argOf m d0 = 0 then (vstep (m.codes.getD ci []) t s.words).1.regs.getD 0 0 else (vstep (m.codes.getD ci []) t s.words).1.regs.getD 1 0) = (if argOf m d0 = 0 then t.regs.getD 0 0 else t.regs.getD 1 0))) ∨
        ((if argOf m d0 = 0 then decide (t.pc = 1) else addedT t) = false ∧ (if argOf m d0 = 0 then decide ((vstep (m.codes.getD ci []) t s.words).1.pc = 1) else addedT (vstep (m.codes.getD ci []) t s.words).1) = true ∧ (if argOf m d0 = 0 then (vstep (m.codes.getD ci []) t s.words).1.regs.getD 0 0 else (vstep (m.codes.getD ci []) t s.words).1.regs.getD 1 0) = v ∧ v2 = v + argOf m d0)) → KL m (i + 1) (s.ths.set n ⟨nx, some (ci, (vstep (m.codes.getD ci []) t s.words).1)⟩) v2 (doings s.evs) := by
      intro h4
      have o1 := eff_own (m := m) (ths := s.ths.set n ⟨nx, some (ci, (vstep (m.codes.getD ci []) t s.words).1)⟩) he0 (by rw [ht0]; exact thOf_at hn _)
      have := h.own hk0 hn ht0 hown hb ⟨nx, some (ci, (vstep (m.codes.getD ci []) t s.words).1)⟩ d0 rfl rfl rfl (fun e he => by rw [he0] at he; cases he) he0 v2 (by rw [hst]; exact hkv) (by rw [o0.1, o0.2, o1.1, o1.2]; exact h4)
      rw [hst] at this
      exact this
    apply go
    clear go hkv
    rcases htf with ⟨rfl, rfl, htf⟩ | ⟨a, rfl, ha1, ha5, rfl, htf⟩
    · have h0 : argOf m d0 = 0 := harg
      simp only [if_pos h0]
      rw [hm.c1] at hov hv2 ⊢
      rcases htf with rfl | ⟨o, rfl, _⟩
      · rw [hv, get_0] at hv2 ⊢
        injection hv2 with hv2
        exact .inr ⟨rfl, rfl, rfl, by rw [h0]; omega⟩
      · rw [get_1] at hov; cases hov
    · have h0 : argOf m d0 = a := harg
      have hn0 : ¬ argOf m d0 = 0 := by omega
      simp only [if_neg hn0]
      rw [hm.c0] at hov hv2 ⊢
      rcases htf with ⟨o, z, rfl⟩ | ⟨o, z, rfl, h0', h1⟩ | ⟨o, rfl, h0', h1⟩ | ⟨o, rfl⟩ | ⟨o, rfl, h0', h1⟩ | ⟨o, rfl, h0', h1⟩
      · rw [hv, add_0] at hv2 ⊢
        injection hv2 with hv2
        exact .inl ⟨hv2.symm, rfl, fun e => by cases e⟩
      · rw [hv, add_1] at hv2 ⊢
        injection hv2 with hv2
        exact .inl ⟨hv2.symm, rfl, fun e => by cases e⟩
      · rw [hv, add_2] at hv2 ⊢
        by_cases e : v = o
        · subst e
          rw [if_pos rfl] at hv2 ⊢
          injection hv2 with hv2
          exact .inr ⟨rfl, rfl, rfl, by rw [h0]; exact hv2.symm⟩
        · rw [if_neg e] at hv2 ⊢
          injection hv2 with hv2
          exact .inl ⟨hv2.symm, rfl, fun e => by cases e⟩
      · rw [add_3b, hv] at hv2 
        rw [add_3b]
        injection hv2 with hv2
        exact .inl ⟨hv2.symm, rfl, fun e => by cases e⟩
      · rw [add_3a, hv] at hv2
        rw [add_3a]
        injection hv2 with hv2
        exact .inl ⟨hv2.symm, rfl, fun _ => rfl⟩
      · rw [add_4] at hov; cases hov
  fin_ := by
    rintro i s n nx ci t k0 d0 hi hD ⟨v, hv, h⟩ hn hov hk0 ht0 hdc0 he0 htold
    obtain ⟨⟨v2, hv2, hkv⟩, herr⟩ := (count_keeps hm l hl).fin_ i s n nx ci t k0 d0 hi hD ⟨v, hv, h.kv⟩ hn hov hk0 ht0 hdc0 he0 htold
    refine ⟨⟨v2, hv2, ?_⟩, herr⟩
    obtain ⟨hnx, c, hcall, htf⟩ := h.kv.th n nx ci t hn
    have hown : ∀ (k : Nat) (d : Dg), (doings s.evs)[k]? = some d → k ≠ k0 → d.e = none → d.t ≠ n := fun k d hk hne he e => hne (hD.own hn hk hk0 e ht0 he he0)
    have hb : ∀ (k : Nat) (d : Dg), (doings s.evs)[k]? = some d → d.b ≤ i := fun k d hk => Nat.le_of_lt_succ (hD.time k d hk).1
    have harg : argOf m d0 = c.args.getD 0 0 := by unfold argOf; rw [ht0, hdc0, hcall]
    have o0 := eff_own (m := m) he0 (by rw [ht0]; exact thOf_get hn)
    have o1 := eff_done (m := m) (ths := s.ths.set n ⟨nx, none⟩) (d := { d0 with e := some i, told := (vstep (m.codes.getD ci []) t s.words).1.told }) rfl
    refine h.own hk0 hn ht0 hown hb ⟨nx, none⟩ { d0 with e := some i, told := (vstep (m.codes.getD ci []) t s.words).1.told } rfl rfl rfl (fun e he => by injection he with he; exact he.symm) he0 v2 hkv ?_
    rw [o0.1, o0.2, o1.1, o1.2]
    clear hkv o0 o1 herr
    left
    rcases htf with ⟨rfl, rfl, htf⟩ | ⟨a, rfl, ha1, ha5, rfl, htf⟩
    · have h0 : argOf m d0 = 0 := harg
      simp only [if_pos h0]
      rw [hm.c1] at hov hv2 ⊢
      rcases htf with rfl | ⟨o, rfl, _⟩
      · rw [hv, get_0] at hov; cases hov
      · rw [get_1, hv] at hv2
        rw [get_1]
        injection hv2 with hv2
        exact ⟨hv2.symm, rfl, fun _ => rfl⟩
    · have h0 : argOf m d0 = a := harg
      have hn0 : ¬ argOf m d0 = 0 := by omega
      simp only [if_neg hn0]
      rw [hm.c0] at hov hv2 ⊢
      rcases htf with ⟨o, z, rfl⟩ | ⟨o, z, rfl, h0', h1⟩ | ⟨o, rfl, h0', h1⟩ | ⟨o, rfl⟩ | ⟨o, rfl, h0', h1⟩ | ⟨o, rfl, h0', h1⟩
      · rw [hv, add_0] at hov; cases hov
      · rw [add_1] at hov; cases hov
      · rw [hv, add_2] at hov
        split at hov <;> cases hov
      · rw [add_3b] at hov; cases hov
      · rw [add_3a] at hov; cases hov
      · rw [add_4, hv] at hv2
        rw [add_4]
        injection hv2 with hv2
        exact ⟨hv2.symm, rfl, fun _ => rfl⟩
theorem lin_start {m : Mach} (hm : CntM m) : KLI m 0 (pinit m).ths m.words [] := by
  obtain ⟨v, hv, K⟩ := count_start hm
  have hw := hm.ws
  rw [hw] at hv
  injection hv with hv
  subst hv
  exact ⟨0, hw, K, fun k d h => (by simp at h), fun k d h => (by simp at h), fun x h0 h1 => (by omega), fun j k d d' e h => (by simp at h), fun j k d d' _ h => (by simp at h)⟩
theorem lin_play {m : Mach} (hm : CntM m) (l : List Nat) (hl : l.length ≤ 6000) : KLI m l.length (play m l).ths (play m l).words (doings (play m l).evs) := ((lin_keeps hm l hl).play (lin_start hm)).1
/-! ### acts one behind the other -/
structure LAct where
  b : Nat
  e : Option Nat
  put : Bool
  val : Int
  by_ : Int
/-- acts of a counter that could be one behind the other, from h on -/
def Lin : Nat → Int → List LAct → Prop
  | 0, _, left => ∀ a ∈ left, a.e = none
  | n + 1, h, left => (∀ a ∈ left, a.e = none) ∨ ∃ (i : Nat) (a : LAct), left[i]? = some a ∧ (∀ b ∈ left, ∀ e, b.e = some e → ¬ e < a.b) ∧ (a.e = none ∨ a.val = h) ∧ Lin n (h + a.by_) (left.eraseIdx i)
/-- an act, whether it had its effect, and on which number -/
structure GAct where
  act : LAct
  ok : Bool
  key : Int
structure LinH (v h : Int) (L : List GAct) : Prop where
  hv : h ≤ v
  by0 : ∀ x ∈ L, 0 ≤ x.act.by_
  done : ∀ x ∈ L, ∀ e, x.act.e = some e → x.ok = true ∧ x.act.val = x.key ∧ x.act.b ≤ e
  get : ∀ x ∈ L, x.ok = true → x.act.by_ = 0 → x.act.e ≠ none
  top : ∀ x ∈ L, x.ok = true → h ≤ x.key ∧ x.key + x.act.by_ ≤ v
  cov : ∀ y : Int, h ≤ y → y < v → ∃ x ∈ L, x.ok = true ∧ 1 ≤ x.act.by_ ∧ x.key ≤ y ∧ y < x.key + x.act.by_
  rt : ∀ x ∈ L, ∀ x' ∈ L, ∀ e, x.act.e = some e → e < x'.act.b → x'.ok = true → x.key + x.act.by_ ≤ x'.key
  dis : ∀ (j k : Nat) (x x' : GAct), j ≠ k → L[j]? = some x → L[k]? = some x' → x.ok = true → x'.ok = true → x.key + x.act.by_ ≤ x'.key ∨ x'.key + x'.act.by_ ≤ x.key
theorem mem_erase {α : Type} {L : List α} {i : Nat} {x : α} (h : x ∈ L.eraseIdx i) : x ∈ L := List.mem_of_mem_eraseIdx h
/-- without one of them -/
theorem LinH.erase {v h : Int} {L : List GAct} (H : LinH v h L) {i : Nat} {a : GAct} (ha : L[i]? = some a) (hok : a.ok = true) (hkey : a.key = h) (hno : a.act.by_ = 0 ∨ ∀ x ∈ L, x.act.e ≠ none → x.act.by_ = 0 → x.key ≠ h) : LinH v (h + a.act.by_) (L.eraseIdx i) := by
  have hm := List.mem_of_getElem? ha
  have ht := H.top a hm hok
  have key : ∀ (j : Nat) (x : GAct), j ≠ i → L[j]? = some x → x.ok = true → h + a.act.by_ ≤ x.key := by
    intro j x hj hx hxo
    have hxm := List.mem_of_getElem? hx
    have h1 := (H.top x hxm hxo).1
    rcases hno with h0 | hno
    · omega
    · have h2 := H.by0 x hxm
      have h3 := H.by0 a hm
      rcases H.dis j i x a hj hx ha hxo hok with h4 | h4
      · have hx0 : x.act.by_ = 0 := by omega
        have := hno x hxm (H.get x hxm hxo hx0) hx0
        omega
      · omega
  have keym : ∀ x ∈ L.eraseIdx i, x.ok = true → h + a.act.by_ ≤ x.key := by
    intro x hx hxo
    obtain ⟨j, hj⟩ := List.getElem?_of_mem hx
    rw [List.getElem?_eraseIdx] at hj
    split at hj
    · exact key j x (by omega) hj hxo
    · exact key (j + 1) x (by omega) hj hxo
  refine ⟨by omega, fun x hx => H.by0 x (mem_erase hx), fun x hx => H.done x (mem_erase hx), fun x hx => H.get x (mem_erase hx), fun x hx hxo => ⟨keym x hx hxo, (H.top x (mem_erase hx) hxo).2⟩, fun y hy hyv => ?_, fun x hx x' hx' => H.rt x (mem_erase hx) x' (mem_erase hx'), fun j k x x' hjk hj hk => ?_⟩
  · have hb := H.by0 a hm
    obtain ⟨x, hx, b1, b2, b3, b4⟩ := H.cov y (by omega) hyv
    refine ⟨x, ?_, b1, b2, b3, b4⟩
    obtain ⟨j, hj⟩ := List.getElem?_of_mem hx
    by_cases e : j = i
    · subst e
      rw [ha] at hj; injection hj with hj; subst hj
      omega
    · by_cases hlt : j < i
      · exact List.mem_of_getElem? (i := j) (by rw [List.getElem?_eraseIdx, if_pos hlt]; exact hj)
      · exact List.mem_of_getElem? (i := j - 1) (by rw [List.getElem?_eraseIdx, if_neg (by omega), show j - 1 + 1 = j by omega]; exact hj)
  · rw [List.getElem?_eraseIdx] at hj hk
    split at hj
    · split at hk
      · exact H.dis j k x x' hjk hj hk
      · exact H.dis j (k + 1) x x' (by omega) hj hk
    · split at hk
      · exact H.dis (j + 1) k x x' (by omega) hj hk
      · exact H.dis (j + 1) (k + 1) x x' (by omega) hj hk
theorem erase_map {α β : Type} (f : α → β) (L : List α) (i : Nat) : (L.map f).eraseIdx i = (L.eraseIdx i).map f := by
  refine List.ext_getElem? fun j => ?_
  rw [List.getElem?_eraseIdx, List.getElem?_map, List.getElem?_map, List.getElem?_map, List.getElem?_eraseIdx]
  split <;> rfl
theorem min_of {P : GAct → Prop} : ∀ (L : List GAct), (∃ x ∈ L, P x) → ∃ x ∈ L, P x ∧ ∀ y ∈ L, P y → x.act.b ≤ y.act.b
  | [], h => by obtain ⟨x, hx, _⟩ := h; cases hx
  | z :: L, h => by
    by_cases hL : ∃ x ∈ L, P x
    · obtain ⟨x, hx, h1, h2⟩ := min_of L hL
      by_cases hz : P z ∧ z.act.b < x.act.b
      · refine ⟨z, List.mem_cons_self, hz.1, fun y hy hp => ?_⟩
        rcases List.mem_cons.1 hy with rfl | hy
        · exact Nat.le_refl _
        · have := h2 y hy hp; omega
      · refine ⟨x, List.mem_cons_of_mem _ hx, h1, fun y hy hp => ?_⟩
        rcases List.mem_cons.1 hy with rfl | hy
        · rcases Nat.lt_or_ge y.act.b x.act.b with h3 | h3
          · exact absurd ⟨hp, h3⟩ hz
          · exact h3
        · exact h2 y hy hp
    · obtain ⟨x, hx, hp⟩ := h
      rcases List.mem_cons.1 hx with rfl | hx
      · refine ⟨x, List.mem_cons_self, hp, fun y hy hpy => ?_⟩
        rcases List.mem_cons.1 hy with rfl | hy
        · exact Nat.le_refl _
        · exact absurd ⟨y, hy, hpy⟩ hL
      · exact absurd ⟨x, hx, hp⟩ hL
theorem lin_of {v : Int} : ∀ (n : Nat) (h : Int) (L : List GAct), L.length = n → LinH v h L → Lin n h (L.map (·.act))
  | 0, h, L, hn, H => by
    have : L = [] := List.length_eq_zero_iff.1 hn
    subst this
    intro a ha; cases ha
  | n + 1, h, L, hn, H => by
    by_cases hall : ∀ a ∈ L.map (·.act), a.e = none
    · exact .inl hall
    right
    have step : ∀ (x : GAct), x ∈ L → x.ok = true → x.key = h → (x.act.e = none ∨ x.act.val = h) → (∀ y ∈ L, ∀ e, y.act.e = some e → ¬ e < x.act.b) → (x.act.by_ = 0 ∨ ∀ y ∈ L, y.act.e ≠ none → y.act.by_ = 0 → y.key ≠ h) → ∃ (i : Nat) (a : LAct), (L.map (·.act))[i]? = some a ∧ (∀ b ∈ L.map (·.act), ∀ e, b.e = some e → ¬ e < a.b) ∧ (a.e = none ∨ a.val = h) ∧ Lin n (h + a.by_) ((L.map (·.act)).eraseIdx i) := by
      intro x hx hok hkey hval hfirst hno
      obtain ⟨i, hi⟩ := List.getElem?_of_mem hx
      refine ⟨i, x.act, by rw [List.getElem?_map, hi]; rfl, fun b hb => ?_, hval, ?_⟩
      · obtain ⟨y, hy, rfl⟩ := List.mem_map.1 hb
        exact hfirst y hy
      · rw [erase_map]
        refine lin_of n _ _ ?_ (H.erase hi hok hkey hno)
        rw [List.length_eraseIdx, if_pos (List.getElem?_eq_some_iff.1 hi).1, hn, Nat.add_sub_cancel]
    by_cases hget : ∃ x ∈ L, x.act.e ≠ none ∧ x.act.by_ = 0 ∧ x.key = h
    · obtain ⟨x, hx, ⟨h1, h2, h3⟩, hmin⟩ := min_of L hget
      obtain ⟨e, he⟩ := Option.ne_none_iff_exists'.1 h1
      obtain ⟨hok, hval, hbe⟩ := H.done x hx e he
      refine step x hx hok h3 (.inr (by rw [hval, h3])) (fun y hy ey hey hlt => ?_) (.inl h2)
      obtain ⟨yok, _, ybe⟩ := H.done y hy ey hey
      have h4 := H.rt y hy x hx ey hey hlt hok
      have h5 := (H.top y hy yok).1
      have h6 := H.by0 y hy
      have h7 := hmin y hy ⟨by rw [hey]; simp, by omega, by omega⟩
      omega
    · have hno : ∀ y ∈ L, y.act.e ≠ none → y.act.by_ = 0 → y.key ≠ h := fun y hy a b c => hget ⟨y, hy, a, b, c⟩
      have hex : ∃ x0 ∈ L, x0.act.e ≠ none := by
        have h1 := Classical.not_forall.1 hall
        obtain ⟨a, h1⟩ := h1
        have h2 := Classical.not_imp.1 h1
        obtain ⟨y, hy, rfl⟩ := List.mem_map.1 h2.1
        exact ⟨y, hy, h2.2⟩
      obtain ⟨x0, hx0, he0⟩ := hex
      obtain ⟨e, he⟩ := Option.ne_none_iff_exists'.1 he0
      obtain ⟨hok0, _, _⟩ := H.done x0 hx0 e he
      have ht0 := H.top x0 hx0 hok0
      have hb0 := H.by0 x0 hx0
      have hlt : h < v := by
        by_cases hz : x0.act.by_ = 0
        · have := hno x0 hx0 he0 hz; omega
        · omega
      obtain ⟨x, hx, b1, b2, b3, b4⟩ := H.cov h (Int.le_refl _) hlt
      have htx := (H.top x hx b1).1
      have hkey : x.key = h := by omega
      refine step x hx b1 hkey ?_ (fun y hy ey hey hl => ?_) (.inr hno)
      · cases hxe : x.act.e with
        | none => exact .inl rfl
        | some e2 => exact .inr (by rw [(H.done x hx e2 hxe).2.1, hkey])
      · obtain ⟨yok, _, _⟩ := H.done y hy ey hey
        have h4 := H.rt y hy x hx ey hey hl b1
        have h5 := (H.top y hy yok).1
        have h6 := H.by0 y hy
        exact hno y hy (by rw [hey]; simp) (by omega) (by omega)
/-- the act that a call is -/
def actOf (m : Mach) (d : Dg) : LAct := ⟨d.b, d.e, decide (argOf m d ≠ 0), d.told.getD 0 0, argOf m d⟩
/-- the calls of a run of the counter could be one behind the other -/
theorem lin_count {m : Mach} (hm : CntM m) (l : List Nat) (hl : l.length ≤ 6000) : Lin (doings (play m l).evs).length 0 ((doings (play m l).evs).map (actOf m)) := by
  obtain ⟨v, hv, K⟩ := lin_play hm l hl
  have D := play_di m l
  let G : List GAct := (doings (play m l).evs).map fun d => ⟨actOf m d, d.e.isSome || (decide (argOf m d ≠ 0) && eff m (play m l).ths d), keyOf m (play m l).ths d⟩
  have hmap : (doings (play m l).evs).map (actOf m) = G.map (·.act) := by
    show _ = List.map _ (List.map _ _)
    rw [List.map_map]; rfl
  have hlen : G.length = (doings (play m l).evs).length := List.length_map _
  have hat : ∀ {k : Nat} {x : GAct}, G[k]? = some x → ∃ d, (doings (play m l).evs)[k]? = some d ∧ x = ⟨actOf m d, d.e.isSome || (decide (argOf m d ≠ 0) && eff m (play m l).ths d), keyOf m (play m l).ths d⟩ := by
    intro k x hk
    have hk' : ((doings (play m l).evs).map fun d => (⟨actOf m d, d.e.isSome || (decide (argOf m d ≠ 0) && eff m (play m l).ths d), keyOf m (play m l).ths d⟩ : GAct))[k]? = some x := hk
    rw [List.getElem?_map] at hk'
    obtain ⟨d, h1, h2⟩ := Option.map_eq_some_iff.1 hk'
    exact ⟨d, h1, h2.symm⟩
  have hmem : ∀ {x : GAct}, x ∈ G → ∃ (k : Nat) (d : Dg), (doings (play m l).evs)[k]? = some d ∧ x = ⟨actOf m d, d.e.isSome || (decide (argOf m d ≠ 0) && eff m (play m l).ths d), keyOf m (play m l).ths d⟩ := by
    intro x hx
    obtain ⟨k, hk⟩ := List.getElem?_of_mem hx
    obtain ⟨d, h1, h2⟩ := hat hk
    exact ⟨k, d, h1, h2⟩
  have heff : ∀ d : Dg, (d.e.isSome || (decide (argOf m d ≠ 0) && eff m (play m l).ths d)) = true → eff m (play m l).ths d = true := by
    intro d h
    cases he : d.e with
    | some e => exact (eff_done he).1
    | none => rw [he] at h; simp at h; exact h.2
  rw [hmap, ← hlen]
  refine lin_of (v := v) G.length 0 G rfl ⟨K.kv.v0.1, fun x hx => ?_, fun x hx e he => ?_, fun x hx hok h0 => ?_, fun x hx hok => ?_, fun y h0 h1 => ?_, fun x hx x' hx' e he hlt hok => ?_, fun j k x x' hjk hj hk h1 h2 => ?_⟩
  · obtain ⟨k, d, hk, rfl⟩ := hmem hx
    exact K.pos k d hk
  · obtain ⟨k, d, hk, rfl⟩ := hmem hx
    have he' : d.e = some e := he
    refine ⟨by simp [he'], ?_, ((D.time k d hk).2 e he').1⟩
    exact (eff_done he').2.symm
  · obtain ⟨k, d, hk, rfl⟩ := hmem hx
    have h0' : argOf m d = 0 := h0
    simp only [h0', ne_eq, not_true_eq_false, decide_false, Bool.false_and, Bool.or_false] at hok
    intro he
    have he' : d.e = none := he
    rw [he'] at hok; cases hok
  · obtain ⟨k, d, hk, rfl⟩ := hmem hx
    exact K.top k d hk (heff d hok)
  · obtain ⟨k, d, hk, a2, a3, a4, a5⟩ := K.cov y h0 h1
    refine ⟨⟨actOf m d, d.e.isSome || (decide (argOf m d ≠ 0) && eff m (play m l).ths d), keyOf m (play m l).ths d⟩, List.mem_map.2 ⟨d, List.mem_of_getElem? hk, rfl⟩, ?_, a3, a4, a5⟩
    have : argOf m d ≠ 0 := by omega
    simp [this, a2]
  · obtain ⟨j, d, hj, rfl⟩ := hmem hx
    obtain ⟨k, d', hk, rfl⟩ := hmem hx'
    exact K.rt j k d d' e hj hk he hlt (heff d' hok)
  · obtain ⟨d, hj2, rfl⟩ := hat hj
    obtain ⟨d', hk2, rfl⟩ := hat hk
    exact K.dis2 j k d d' hjk hj2 hk2 (heff d h1) (heff d' h2)
end

section
open Go.RowKit
/-- acts of a queue (q) or a stack that could be one behind the other, from what it has on -/
def LinO (q : Bool) : Nat → List Int → List LAct → Prop
  | 0, _, left => ∀ a ∈ left, a.e = none
  | n + 1, has, left => (∀ a ∈ left, a.e = none) ∨ ∃ (i : Nat) (a : LAct), left[i]? = some a ∧ (∀ b ∈ left, ∀ e, b.e = some e → ¬ e < a.b) ∧ (a.e = none ∨ (otell q has a.put a.val).1 = a.val) ∧ LinO q n (otell q has a.put a.val).2 (left.eraseIdx i)
theorem erase_get {α : Type} {L : List α} {i : Nat} {x p : α} (hi : L[i]? = some x) (hp : p ∈ L) (hne : p ≠ x) : p ∈ L.eraseIdx i := by
  obtain ⟨j, hj⟩ := List.getElem?_of_mem hp
  have hji : j ≠ i := fun e => by subst e; rw [hj] at hi; injection hi with hi; exact hne hi
  by_cases hlt : j < i
  · exact List.mem_of_getElem? (i := j) (by rw [List.getElem?_eraseIdx, if_pos hlt]; exact hj)
  · exact List.mem_of_getElem? (i := j - 1) (by rw [List.getElem?_eraseIdx, if_neg (by omega), show j - 1 + 1 = j by omega]; exact hj)
theorem key_uniq {L : List (Nat × LAct)} (hn : (L.map Prod.fst).Nodup) {j k : Nat} {x y : Nat × LAct} (hj : L[j]? = some x) (hk : L[k]? = some y) (e : x.1 = y.1) : j = k := by
  have h1 : (L.map Prod.fst)[j]? = some x.1 := by rw [List.getElem?_map, hj]; rfl
  have h2 : (L.map Prod.fst)[k]? = some x.1 := by rw [List.getElem?_map, hk, e]; rfl
  exact (List.getElem?_inj (List.getElem?_eq_some_iff.1 h1).1 hn).1 (by rw [h1, h2])
theorem erase_key {L : List (Nat × LAct)} (hn : (L.map Prod.fst).Nodup) {i : Nat} {x p : Nat × LAct} (hi : L[i]? = some x) (hp : p ∈ L.eraseIdx i) : p.1 ≠ x.1 := by
  intro e
  obtain ⟨j, hj⟩ := List.getElem?_of_mem hp
  rw [List.getElem?_eraseIdx] at hj
  split at hj
  · have := key_uniq hn hj hi e; omega
  · have := key_uniq hn hj hi e; omega
theorem mem_key {L : List (Nat × LAct)} (hn : (L.map Prod.fst).Nodup) {k : Nat} {a b : LAct} (ha : (k, a) ∈ L) (hb : (k, b) ∈ L) : a = b := by
  obtain ⟨i, hi⟩ := List.getElem?_of_mem ha
  obtain ⟨j, hj⟩ := List.getElem?_of_mem hb
  have := key_uniq hn hi hj rfl
  subst this
  rw [hi] at hj; injection hj with hj; injection hj
/-- the effects' order is an order of the acts -/
theorem lino_of (q : Bool) : ∀ (n : Nat) (has l : List Int) (H : List Lg) (L : List (Nat × LAct)), L.length = n → OSeq q has H l → (L.map Prod.fst).Nodup → (H.map Lg.k).Nodup →
    (∀ x ∈ H, ∃ a, (x.k, a) ∈ L ∧ a.put = x.put ∧ (x.put = true → a.val = x.v) ∧ (a.e ≠ none → a.val = x.v)) → (∀ p ∈ L, p.2.e ≠ none → ∃ x ∈ H, x.k = p.1) →
    (H.Pairwise fun x y => ∀ ax ay e, (x.k, ax) ∈ L → (y.k, ay) ∈ L → ay.e = some e → ax.b ≤ e) → (∀ p ∈ L, ∀ e, p.2.e = some e → p.2.b ≤ e) → LinO q n has (L.map Prod.snd)
  | 0, has, l, H, L, hn, _, _, _, _, _, _, _ => by
    have : L = [] := List.length_eq_zero_iff.1 hn
    subst this
    intro a ha; cases ha
  | n + 1, has, l, [], L, hn, _, _, _, _, hL, _, _ => by
    refine .inl fun a ha => ?_
    obtain ⟨p, hp, rfl⟩ := List.mem_map.1 ha
    cases he : p.2.e with
    | none => rfl
    | some e => obtain ⟨x, hx, _⟩ := hL p hp (by rw [he]; simp); cases hx
  | n + 1, has, l, x :: H, L, hn, hs, hk, hd, hH, hL, hr, hse => by
    obtain ⟨a, ha, hput, hv, hv2⟩ := hH x List.mem_cons_self
    obtain ⟨i, hi⟩ := List.getElem?_of_mem ha
    rw [List.pairwise_cons] at hr
    rw [List.map_cons, List.nodup_cons] at hd
    have hlt := (List.getElem?_eq_some_iff.1 hi).1
    have hst : (otell q has a.put a.val).2 = (otell q has x.put x.v).2 := by
      rw [hput]
      cases hp : x.put with
      | true => rw [hv hp]
      | false => rw [otell_take q has a.val x.v]
    refine .inr ⟨i, a, by rw [List.getElem?_map, hi]; rfl, fun b hb e he => ?_, ?_, ?_⟩
    · obtain ⟨p, hp, rfl⟩ := List.mem_map.1 hb
      obtain ⟨y, hy, hyk⟩ := hL p hp (by rw [he]; simp)
      have hp' : (y.k, p.2) ∈ L := by rw [hyk]; exact hp
      rcases List.mem_cons.1 hy with rfl | hy
      · have := mem_key hk ha hp'
        rw [this]
        have := hse p hp e he
        omega
      · have := hr.1 y hy a p.2 e ha hp' he
        omega
    · cases hae : a.e with
      | none => exact .inl rfl
      | some e =>
        right
        have h1 := hv2 (by rw [hae]; simp)
        rw [hput, h1]
        exact hs.1
    · rw [hst, erase_map]
      have key : ∀ p ∈ L.eraseIdx i, p ∈ L := fun p hp => List.mem_of_mem_eraseIdx hp
      refine lino_of q n _ l H (L.eraseIdx i) (by rw [List.length_eraseIdx, if_pos hlt, hn, Nat.add_sub_cancel]) hs.2 ?_ hd.2 (fun y hy => ?_) (fun p hp he => ?_) (hr.2.imp fun {y z} h ay az e h1 h2 h3 => h ay az e (key _ h1) (key _ h2) h3) (fun p hp => hse p (key p hp))
      · exact hk.sublist ((List.eraseIdx_sublist _ _).map _)
      · obtain ⟨b, hb, h1⟩ := hH y (List.mem_cons_of_mem _ hy)
        refine ⟨b, erase_get hi hb fun e => ?_, h1⟩
        injection e with e _
        exact hd.1 (List.mem_map.2 ⟨y, hy, e⟩)
      · obtain ⟨y, hy, hyk⟩ := hL p (key p hp) he
        rcases List.mem_cons.1 hy with rfl | hy
        · exact absurd hyk.symm (erase_key hk hi hp)
        · exact ⟨y, hy, hyk⟩
/-- the act that a call is; none: it was turned away -/
def refD (m : Mach) (d : Dg) : Bool := putD m d && d.e.isSome && d.told == [0]
def vOf (m : Mach) (d : Dg) : Int := match callOf m d.t d.c with | some c => if isPut c then argV c else (if d.e.isSome then d.told.getD 0 0 else 0) | none => 0
def oact (m : Mach) (d : Dg) : Option LAct := if refD m d then none else some ⟨d.b, d.e, putD m d, vOf m d, 0⟩
def kacts (m : Mach) : Nat → List Dg → List (Nat × LAct)
  | _, [] => []
  | k, d :: ds => match oact m d with
    | none => kacts m (k + 1) ds
    | some a => (k, a) :: kacts m (k + 1) ds
theorem kacts_cons (m : Mach) (k : Nat) (d : Dg) (ds : List Dg) : kacts m k (d :: ds) = match oact m d with
    | none => kacts m (k + 1) ds
    | some a => (k, a) :: kacts m (k + 1) ds := rfl
theorem kacts_map (m : Mach) : ∀ (k : Nat) (ds : List Dg), (kacts m k ds).map Prod.snd = ds.filterMap (oact m)
  | _, [] => rfl
  | k, d :: ds => by
    rw [kacts_cons]
    cases h : oact m d with
    | none => rw [List.filterMap_cons_none h]; exact kacts_map m (k + 1) ds
    | some a => rw [List.filterMap_cons_some h, List.map_cons, kacts_map m (k + 1) ds]
theorem kacts_mem (m : Mach) : ∀ (k : Nat) (ds : List Dg) (p : Nat × LAct), p ∈ kacts m k ds ↔ ∃ j d, p.1 = k + j ∧ ds[j]? = some d ∧ oact m d = some p.2
  | k, [], p => ⟨fun h => (by cases h), fun h => by obtain ⟨j, d, _, h, _⟩ := h; simp at h⟩
  | k, d :: ds, p => by
    have ih := kacts_mem m (k + 1) ds p
    have e : p ∈ kacts m k (d :: ds) ↔ (p.1 = k ∧ oact m d = some p.2) ∨ p ∈ kacts m (k + 1) ds := by
      rw [kacts_cons]
      cases h : oact m d with
      | none => simp
      | some a =>
        rw [List.mem_cons]
        refine ⟨fun h1 => ?_, fun h1 => ?_⟩
        · rcases h1 with rfl | h1
          · exact .inl ⟨rfl, rfl⟩
          · exact .inr h1
        · rcases h1 with ⟨h1, h2⟩ | h1
          · left
            injection h2 with h2
            rw [← h1, h2]
          · exact .inr h1
    rw [e, ih]
    refine ⟨fun h => ?_, fun h => ?_⟩
    · rcases h with ⟨h1, h2⟩ | ⟨j, d', h1, h2, h3⟩
      · exact ⟨0, d, h1, rfl, h2⟩
      · exact ⟨j + 1, d', by omega, h2, h3⟩
    · obtain ⟨j, d', h1, h2, h3⟩ := h
      cases j with
      | zero => injection h2 with h2; subst h2; exact .inl ⟨h1, h3⟩
      | succ j => exact .inr ⟨j, d', by omega, h2, h3⟩
theorem kacts_nd (m : Mach) : ∀ (k : Nat) (ds : List Dg), ((kacts m k ds).map Prod.fst).Nodup
  | _, [] => List.nodup_nil
  | k, d :: ds => by
    have ih := kacts_nd m (k + 1) ds
    rw [kacts_cons]
    cases h : oact m d with
    | none => exact ih
    | some a =>
      simp only [List.map_cons]
      rw [List.nodup_cons]
      refine ⟨fun hm => ?_, ih⟩
      obtain ⟨p, hp, e⟩ := List.mem_map.1 hm
      obtain ⟨j, d', h1, _⟩ := (kacts_mem m (k + 1) ds p).1 hp
      omega
/-- the calls of a run of an object could be one behind the other -/
theorem lino_li {q : Bool} {N : Nat} {m : Mach} {P : VCall → Ph → Th → Prop} {i : Nat} {ths : List PT} {ds : List Dg} {H : List Lg} {l : List Int} (h : LI q N m P i ths ds H l) (ht : ∀ (k : Nat) (d : Dg), ds[k]? = some d → ∀ e, d.e = some e → d.b ≤ e) :
    LinO q (ds.filterMap (oact m)).length [] (ds.filterMap (oact m)) := by
  have hmem : ∀ {k : Nat} {a : LAct}, (k, a) ∈ kacts m 0 ds → ∃ d, ds[k]? = some d ∧ oact m d = some a := fun {k a} hk => by
    obtain ⟨j, d, h1, h2, h3⟩ := (kacts_mem m 0 ds (k, a)).1 hk
    rw [Nat.zero_add] at h1
    have h1 : k = j := h1
    subst h1
    exact ⟨d, h2, h3⟩
  have hact : ∀ {d : Dg} {a : LAct}, oact m d = some a → refD m d = false ∧ a = ⟨d.b, d.e, putD m d, vOf m d, 0⟩ := fun {d a} ha => by
    unfold oact at ha
    split at ha
    · cases ha
    · rename_i h1
      injection ha with ha
      exact ⟨by simpa using h1, ha.symm⟩
  rw [← kacts_map m 0 ds]
  rw [List.length_map]
  refine lino_of q _ [] l H _ rfl h.seq (kacts_nd m 0 ds) h.nd (fun x hx => ?_) (fun p hp he => ?_) (h.rt.imp_of_mem fun {x y} hx hy hxy ax ay e h1 h2 h3 => ?_) (fun p hp e he => ?_)
  · obtain ⟨d, c, h1, h2, h3, h4, h5, h6⟩ := h.ent x hx
    have hpd : putD m d = x.put := by unfold putD; rw [h2, h3]
    have hr : refD m d = false := by
      unfold refD
      rw [hpd]
      cases hp : x.put with
      | false => rfl
      | true =>
        cases he : d.e with
        | none => rfl
        | some e =>
          have := h6 e he
          rw [hp] at this
          rw [this]; rfl
    refine ⟨⟨d.b, d.e, putD m d, vOf m d, 0⟩, (kacts_mem m 0 ds _).2 ⟨x.k, d, (Nat.zero_add _).symm, h1, ?_⟩, hpd, fun hp => ?_, fun he => ?_⟩
    · unfold oact
      rw [if_neg (by rw [hr]; simp)]
    · show vOf m d = x.v
      unfold vOf
      rw [h2]
      simp only
      rw [← h3, if_pos hp, h4 hp]
    · show vOf m d = x.v
      unfold vOf
      rw [h2]
      simp only
      rw [← h3]
      cases hp : x.put with
      | true => rw [if_pos rfl, h4 hp]
      | false =>
        obtain ⟨e, he'⟩ := Option.ne_none_iff_exists'.1 he
        have he' : d.e = some e := he'
        have := h6 e he'
        rw [hp] at this
        rw [he', this]; rfl
  · obtain ⟨d, h1, h2⟩ := hmem (k := p.1) (a := p.2) hp
    obtain ⟨h3, h4⟩ := hact h2
    rw [h4] at he
    obtain ⟨e, he'⟩ := Option.ne_none_iff_exists'.1 he
    have he' : d.e = some e := he'
    rcases h.cov p.1 d e h1 he' with h5 | ⟨h5, h6, _⟩
    · exact h5
    · unfold refD at h3
      rw [h5, he', h6] at h3
      simp at h3
  · obtain ⟨dx, a1, a2⟩ := hmem h1
    obtain ⟨dy, b1, b2⟩ := hmem h2
    rw [(hact b2).2] at h3
    rw [(hact a2).2]
    exact hxy dx dy e a1 b1 h3
  · obtain ⟨d, h1, h2⟩ := hmem (k := p.1) (a := p.2) hp
    rw [(hact h2).2] at he ⊢
    exact ht p.1 d h1 e he
end
end Go.Proofs.YtbcjgnigdddlkaaDoor
