/-
  Objects whose calls have one effect each: the effects in their order; plain laws.
-/
import Derived.Test.YtiinnkdhccgelaaDoorQStep
import Derived.Test.YtiinnkdhccgelaaDoorCountLaw
import Derived.Test.YtiinnkdhccgelaaDoorInside
namespace Go.Proofs.YtiinnkdhccgelaaDoor
open Go.RowKit
set_option linter.unusedVariables false

/-- an effect: of which call of the run, whether it put, and what was put or taken -/
structure Lg where
  k : Nat
  put : Bool
  v : Int
def OSeq (q : Bool) : List Int → List Lg → List Int → Prop
  | has, [], l => l = has
  | has, x :: H, l => (otell q has x.put x.v).1 = x.v ∧ OSeq q (otell q has x.put x.v).2 H l
theorem OSeq.snoc {q : Bool} {x : Lg} : ∀ {H : List Lg} {has l : List Int}, OSeq q has H l → (otell q l x.put x.v).1 = x.v → OSeq q has (H ++ [x]) (otell q l x.put x.v).2
  | [], has, l, h, hx => by
    have h : l = has := h
    subst h
    exact ⟨hx, rfl⟩
  | y :: H, has, l, h, hx => ⟨h.1, OSeq.snoc h.2 hx⟩
theorem otell_take (q : Bool) (l : List Int) (v w : Int) : otell q l false v = otell q l false w := rfl
/-- what is there is what was put and not taken -/
theorem otell_len (q : Bool) (l : List Int) (h : ∀ y ∈ l, y ≠ -1) (p : Bool) (v : Int) (hp : p = true → v ≠ -1) (hv : (otell q l p v).1 = v) :
    (otell q l p v).2.length + (if !p && v != -1 then 1 else 0) = l.length + (if p then 1 else 0) ∧ ∀ y ∈ (otell q l p v).2, y ≠ -1 := by
  cases p with
  | true =>
    refine ⟨by simp [otell], fun y hy => ?_⟩
    rcases List.mem_append.1 (show y ∈ l ++ [v] from hy) with h1 | h1
    · exact h y h1
    · rw [List.mem_singleton.1 h1]; exact hp rfl
  | false =>
    match l, h, hv with
    | [], h, hv =>
      have hv : (-1 : Int) = v := hv
      subst hv
      exact ⟨rfl, fun y hy => by cases hy⟩
    | x :: l, h, hv =>
      cases q with
      | true =>
        have hv : x = v := hv
        subst hv
        have hx := h x List.mem_cons_self
        refine ⟨?_, fun y hy => h y (List.mem_cons_of_mem _ hy)⟩
        show l.length + (if (!false && x != -1) = true then 1 else 0) = (x :: l).length + 0
        rw [if_pos (by simp [hx])]; rfl
      | false =>
        have hv : (x :: l).getLast?.getD 0 = v := hv
        rw [List.getLast?_eq_some_getLast (by simp), Option.getD_some] at hv
        have hx : v ≠ -1 := by rw [← hv]; exact h _ (List.getLast_mem _)
        refine ⟨?_, fun y hy => h y (List.dropLast_subset _ hy)⟩
        show (x :: l).dropLast.length + (if (!false && v != -1) = true then 1 else 0) = (x :: l).length + 0
        rw [if_pos (by simp [hx]), List.length_dropLast]; simp
theorem filter_len {α : Type} (p : α → Bool) (x : α) (l : List α) : ((x :: l).filter p).length = (l.filter p).length + (if p x then 1 else 0) := by
  rw [List.filter_cons]; split <;> simp
theorem OSeq.len {q : Bool} : ∀ {H : List Lg} {has l : List Int}, OSeq q has H l → (∀ y ∈ has, y ≠ -1) → (∀ x ∈ H, x.put = true → x.v ≠ -1) →
    l.length + (H.filter fun x => !x.put && x.v != -1).length = has.length + (H.filter fun x => x.put).length ∧ ∀ y ∈ l, y ≠ -1
  | [], has, l, h, h1, h2 => by
    have h : l = has := h
    subst h
    exact ⟨rfl, h1⟩
  | x :: H, has, l, h, h1, h2 => by
    obtain ⟨a, b⟩ := otell_len q has h1 x.put x.v (h2 x List.mem_cons_self) h.1
    obtain ⟨c, d⟩ := OSeq.len h.2 b fun y hy => h2 y (List.mem_cons_of_mem _ hy)
    refine ⟨?_, d⟩
    rw [filter_len, filter_len]
    omega
/-! ### machines -/
def isPut (c : VCall) : Bool := c.code == 0
def argV (c : VCall) : Int := if isPut c then c.args.getD 0 0 else 0
def OkC (c : VCall) : Prop := (c.code = 0 ∧ ∃ v, c.args = [v] ∧ 0 ≤ v) ∨ (c.code = 1 ∧ c.args = [])
structure ObjM (q : Bool) (N : Nat) (m : Mach) (P : List Int → VCall → Ph → Th → Prop) (G : List PT → List Int → List Int → Prop) : Prop where
  call : ∀ (n nx : Nat) (c : VCall), callOf m n nx = some c → OkC c
  beg : ∀ ths ws l n nx c, G ths ws l → ths[n]? = some ⟨nx, none⟩ → callOf m n nx = some c → P ws c .no (vbegin (m.codes.getD c.code []).length c.args) ∧ G (ths.set n ⟨nx + 1, some (c.code, vbegin (m.codes.getD c.code []).length c.args)⟩) ws l
  act : ∀ ths ws l n nx t c ph, G ths ws l → ths[n]? = some ⟨nx + 1, some (c.code, t)⟩ → callOf m n nx = some c → P ws c ph t →
    (∀ n' nx' t' c' ph'', n' ≠ n → ths[n']? = some ⟨nx' + 1, some (c'.code, t')⟩ → callOf m n' nx' = some c' → P ws c' ph'' t' → P (vstep (m.codes.getD c.code []) t ws).2 c' ph'' t') ∧
    ∃ ph' l', (vstep (m.codes.getD c.code []) t ws).1.err = 0 ∧
      (((vstep (m.codes.getD c.code []) t ws).1.over = false ∧ OEff q N (isPut c) (argV c) ph l ph' l' ∧ P (vstep (m.codes.getD c.code []) t ws).2 c ph' (vstep (m.codes.getD c.code []) t ws).1 ∧ G (ths.set n ⟨nx + 1, some (c.code, (vstep (m.codes.getD c.code []) t ws).1)⟩) (vstep (m.codes.getD c.code []) t ws).2 l') ∨
       ((vstep (m.codes.getD c.code []) t ws).1.over = true ∧ ph' = ph ∧ l' = l ∧ OTold (isPut c) ph' (vstep (m.codes.getD c.code []) t ws).1.told ∧ G (ths.set n ⟨nx + 1, none⟩) (vstep (m.codes.getD c.code []) t ws).2 l'))
/-! ### who was turned away -/
def putD (m : Mach) (d : Dg) : Bool := match callOf m d.t d.c with | some c => isPut c | none => false
def tkF (m : Mach) (b : Nat) (d : Dg) : Bool := !putD m d && (match d.e with | some e => decide (e < b) | none => false) && d.told != [-1]
def ptF (m : Mach) (k i j : Nat) (d : Dg) : Bool := decide (j ≠ k) && putD m d && decide (d.b < i)
/-- there was no room: so many were taken ahead of b, so many came ahead of i -/
def Full (N : Nat) (m : Mach) (ds : List Dg) (k b i : Nat) : Prop := N + cntI (fun _ => tkF m b) 0 ds ≤ cntI (ptF m k i) 0 ds
theorem cntI_mono {α : Type} {f g : Nat → α → Bool} : ∀ (l : List α) (k : Nat), (∀ j x, f j x = true → g j x = true) → cntI f k l ≤ cntI g k l
  | [], _, _ => Nat.le_refl _
  | x :: l, k, h => by
    have ih := cntI_mono l (k + 1) h
    have h1 := h k x
    unfold cntI b2n
    cases hf : f k x with
    | true => rw [h1 hf]; simp; omega
    | false => simp; omega
theorem cntI_congr {α : Type} {f g : Nat → α → Bool} : ∀ (l : List α) (k : Nat), (∀ j x, l[j]? = some x → f (k + j) x = g (k + j) x) → cntI f k l = cntI g k l
  | [], _, _ => rfl
  | x :: l, k, h => by
    have ih := cntI_congr (f := f) (g := g) l (k + 1) fun j y hy => by rw [show k + 1 + j = k + (j + 1) by omega]; exact h (j + 1) y (by simpa using hy)
    have h0 := h 0 x rfl
    rw [Nat.add_zero] at h0
    unfold cntI
    rw [ih, h0]
/-- who is counted is listed -/
theorem cntI_list {α : Type} (f : Nat → α → Bool) : ∀ (n : Nat) (l : List α) (ks : List Nat), l.length = n → (∀ k x, l[k]? = some x → f k x = true → k ∈ ks) → cntI f 0 l ≤ ks.length
  | 0, l, ks, hl, h => by
    have : l = [] := List.eq_nil_of_length_eq_zero hl
    subst this; exact Nat.zero_le _
  | n + 1, l, ks, hl, h => by
    obtain ⟨l', p, rfl⟩ : ∃ l' p, l = l' ++ [p] := ⟨l.dropLast, l.getLast (by intro e; rw [e] at hl; simp at hl), (List.dropLast_concat_getLast _).symm⟩
    have hl' : l'.length = n := by simpa using hl
    rw [cntI_snoc, hl', Nat.zero_add]
    cases hp : f n p with
    | false =>
      have := cntI_list f n l' ks hl' fun k x hk hf => h k x (snoc_get hk _) hf
      unfold b2n; simp; exact this
    | true =>
      have hm : n ∈ ks := h n p (by rw [List.getElem?_append_right (by omega), hl', Nat.sub_self]; rfl) hp
      have ih := cntI_list f n l' (ks.erase n) hl' fun k x hk hf => by
        have hk' := (List.getElem?_eq_some_iff.1 hk).1
        exact (List.mem_erase_of_ne (by omega)).2 (h k x (snoc_get hk _) hf)
      have e := List.length_erase_of_mem hm
      have : 0 < ks.length := List.length_pos_of_mem hm
      unfold b2n; simp; omega
theorem Full.mono {N : Nat} {m : Mach} {ds : List Dg} {k b i j : Nat} (h : Full N m ds k b i) (hij : i ≤ j) : Full N m ds k b j :=
  Nat.le_trans h (cntI_mono _ _ fun a d hd => by
    unfold ptF at hd ⊢
    simp only [Bool.and_eq_true, decide_eq_true_eq] at hd ⊢
    exact ⟨hd.1, by omega⟩)
theorem Full.snoc {N : Nat} {m : Mach} {ds : List Dg} {k b i : Nat} (h : Full N m ds k b i) (d : Dg) (he : d.e = none) : Full N m (ds ++ [d]) k b i := by
  unfold Full at h ⊢
  rw [cntI_snoc, cntI_snoc]
  have e : tkF m b d = false := by unfold tkF; rw [he]; simp
  rw [e]; unfold b2n; simp; omega
/-- a call that ends at i -/
theorem Full.set {N : Nat} {m : Mach} {ds : List Dg} {k b i j k0 : Nat} {d0 d1 : Dg} (h : Full N m ds k b j) (hk : ds[k0]? = some d0) (he0 : d0.e = none) (hd : d1.b = d0.b ∧ d1.t = d0.t ∧ d1.c = d0.c) (he1 : ∀ e, d1.e = some e → b ≤ e) : Full N m (ds.set k0 d1) k b j := by
  unfold Full at h ⊢
  have h1 := cntI_set0 (fun _ => tkF m b) d1 hk
  have h2 := cntI_set0 (ptF m k j) d1 hk
  have e0 : tkF m b d0 = false := by unfold tkF; rw [he0]; simp
  have e1 : tkF m b d1 = false := by
    unfold tkF
    cases hx : d1.e with
    | none => simp
    | some e => have := he1 e hx; simp; omega
  have e2 : ptF m k j k0 d1 = ptF m k j k0 d0 := by unfold ptF putD; rw [hd.1, hd.2.1, hd.2.2]
  rw [e0, e1] at h1
  rw [e2] at h2
  omega
/-- how the effects tell of a call -/
def PhOk (N : Nat) (m : Mach) (ds : List Dg) (H : List Lg) (i k : Nat) (d : Dg) : Ph → Prop
  | .no => ∀ x ∈ H, x.k ≠ k
  | .done v => ∃ x ∈ H, x.k = k ∧ x.v = v
  | .ref => (∀ x ∈ H, x.k ≠ k) ∧ Full N m ds k d.b i
structure LI (q : Bool) (N : Nat) (m : Mach) (P : VCall → Ph → Th → Prop) (i : Nat) (ths : List PT) (ds : List Dg) (H : List Lg) (l : List Int) : Prop where
  seq : OSeq q [] H l
  nd : (H.map Lg.k).Nodup
  ent : ∀ x ∈ H, ∃ (d : Dg) (c : VCall), ds[x.k]? = some d ∧ callOf m d.t d.c = some c ∧ x.put = isPut c ∧ (x.put = true → x.v = argV c) ∧ d.b < i ∧ ∀ e, d.e = some e → d.told = [if x.put then 1 else x.v]
  call : ∀ (k : Nat) (d : Dg), ds[k]? = some d → ∃ c, callOf m d.t d.c = some c ∧ OkC c
  cov : ∀ (k : Nat) (d : Dg) (e : Nat), ds[k]? = some d → d.e = some e → (∃ x ∈ H, x.k = k) ∨ (putD m d = true ∧ d.told = [0] ∧ Full N m ds k d.b e)
  rt : H.Pairwise fun x y => ∀ (dx dy : Dg) (e : Nat), ds[x.k]? = some dx → ds[y.k]? = some dy → dy.e = some e → dx.b ≤ e
  th : ∀ (n nx ci : Nat) (t : Th), ths[n]? = some ⟨nx, some (ci, t)⟩ → 1 ≤ nx ∧ ∃ c ph, callOf m n (nx - 1) = some c ∧ ci = c.code ∧ P c ph t ∧ ∀ (k : Nat) (d : Dg), ds[k]? = some d → d.t = n → d.c = nx - 1 → PhOk N m ds H i k d ph
theorem ent_uniq {H : List Lg} (hn : (H.map Lg.k).Nodup) {x y : Lg} (hx : x ∈ H) (hy : y ∈ H) (e : x.k = y.k) : x = y := by
  obtain ⟨a, ha⟩ := List.getElem?_of_mem hx
  obtain ⟨b, hb⟩ := List.getElem?_of_mem hy
  have h1 : (H.map Lg.k)[a]? = some x.k := by rw [List.getElem?_map, ha]; rfl
  have h2 : (H.map Lg.k)[b]? = some x.k := by rw [List.getElem?_map, hb, e]; rfl
  have hl := (List.getElem?_eq_some_iff.1 h1).1
  have hab : a = b := (List.getElem?_inj hl hn).1 (by rw [h1, h2])
  subst hab
  rw [ha] at hb
  injection hb
theorem okc_arg {c : VCall} (h : OkC c) : argV c ≠ -1 := by
  unfold argV isPut
  rcases h with ⟨h, v, hv, h0⟩ | ⟨h, hv⟩
  · rw [h, hv]; simp; omega
  · rw [h]; simp
theorem nodup_sub {H : List Lg} (hn : (H.map Lg.k).Nodup) (f : Lg → Bool) : ((H.filter f).map Lg.k).Nodup := hn.sublist ((List.filter_sublist).map _)
/-- all room is taken: nobody who is turned away is so without need -/
theorem LI.full {q : Bool} {N : Nat} {m : Mach} {P : VCall → Ph → Th → Prop} {i : Nat} {ths : List PT} {ds : List Dg} {H : List Lg} {l : List Int} (h : LI q N m P i ths ds H l) {k b : Nat} (hk : ∀ x ∈ H, x.k ≠ k) (hl : N ≤ l.length) : Full N m ds k b i := by
  have hv : ∀ x ∈ H, x.put = true → x.v ≠ -1 := fun x hx hp => by
    obtain ⟨d, c, h1, h2, h3, h4, _⟩ := h.ent x hx
    obtain ⟨c', h5, h6⟩ := h.call x.k d h1
    rw [h2] at h5; injection h5 with h5; subst h5
    rw [h4 hp]; exact okc_arg h6
  have hlen := (h.seq.len (by simp) hv).1
  rw [List.length_nil, Nat.zero_add] at hlen
  have a1 : (H.filter fun x => x.put).length ≤ cntI (ptF m k i) 0 ds := by
    rw [← List.length_map (f := Lg.k)]
    refine nodup_count _ _ _ _ rfl (nodup_sub h.nd _) fun j hj => ?_
    obtain ⟨x, hx, rfl⟩ := List.mem_map.1 hj
    obtain ⟨hx1, hx2⟩ := List.mem_filter.1 hx
    obtain ⟨d, c, h1, h2, h3, h4, h5, _⟩ := h.ent x hx1
    refine ⟨d, h1, ?_⟩
    unfold ptF putD
    rw [h2]
    simp only [Bool.and_eq_true, decide_eq_true_eq]
    exact ⟨⟨hk x hx1, by rw [← h3]; exact hx2⟩, h5⟩
  have a2 : cntI (fun _ => tkF m b) 0 ds ≤ (H.filter fun x => !x.put && x.v != -1).length := by
    rw [← List.length_map (f := Lg.k)]
    refine cntI_list _ _ _ _ rfl fun j d hj hf => ?_
    unfold tkF at hf
    simp only [Bool.and_eq_true, Bool.not_eq_true'] at hf
    obtain ⟨⟨f1, f2⟩, f3⟩ := hf
    obtain ⟨e, he⟩ : ∃ e, d.e = some e := by
      cases hx : d.e with
      | none => rw [hx] at f2; cases f2
      | some e => exact ⟨e, rfl⟩
    rcases h.cov j d e hj he with ⟨x, hx, rfl⟩ | ⟨h1, _⟩
    · refine List.mem_map.2 ⟨x, List.mem_filter.2 ⟨hx, ?_⟩, rfl⟩
      obtain ⟨d', c, h1, h2, h3, h4, h5, h6⟩ := h.ent x hx
      rw [hj] at h1; injection h1 with h1; subst h1
      have hp : x.put = false := by unfold putD at f1; rw [h2] at f1; rw [h3]; exact f1
      have ht := h6 e he
      rw [hp] at ht ⊢
      rw [ht] at f3
      simpa using f3
    · rw [h1] at f1; cases f1
  unfold Full
  omega
section
variable {q : Bool} {N : Nat} {m : Mach} {P : VCall → Ph → Th → Prop} {i : Nat} {ths : List PT} {ds : List Dg} {H : List Lg} {l : List Int}
/-- a step of a thread within its call -/
theorem LI.own {P' : VCall → Ph → Th → Prop} (h : LI q N m P i ths ds H l) {n k0 : Nat} {d0 : Dg} {p0 : PT} (hk0 : ds[k0]? = some d0) (hn : ths[n]? = some p0) (ht0 : d0.t = n) (he0 : d0.e = none)
    (hoP : ∀ (n' nx : Nat) (t : Th) (c : VCall) (ph : Ph), n' ≠ n → ths[n']? = some ⟨nx + 1, some (c.code, t)⟩ → callOf m n' nx = some c → P c ph t → P' c ph t)
    (huniq : ∀ (k : Nat) (d : Dg), ds[k]? = some d → d.t = n → d.c = d0.c → k = k0) (hb : ∀ (k : Nat) (d : Dg), ds[k]? = some d → d.b ≤ i)
    (p' : PT) (d1 : Dg) (hd : d1.b = d0.b ∧ d1.t = d0.t ∧ d1.c = d0.c) {c : VCall} (hc : callOf m n d0.c = some c) {ph ph' : Ph} {l' : List Int} (hph : PhOk N m ds H i k0 d0 ph)
    (heff : OEff q N (isPut c) (argV c) ph l ph' l')
    (hp : ∀ ci t, p'.cur = some (ci, t) → d1 = d0 ∧ p'.next = d0.c + 1 ∧ ci = c.code ∧ P' c ph' t)
    (he1 : ∀ e, d1.e = some e → e = i ∧ ph' = ph ∧ l' = l ∧ OTold (isPut c) ph' d1.told) :
    ∃ H', LI q N m P' (i + 1) (ths.set n p') (ds.set k0 d1) H' l' := by
  have hcall : callOf m d1.t d1.c = some c := by rw [hd.2.1, hd.2.2, ht0]; exact hc
  have hcall0 : callOf m d0.t d0.c = some c := by rw [ht0]; exact hc
  have hput1 : putD m d1 = isPut c := by unfold putD; rw [hcall]
  have hfull : ∀ {k b j : Nat}, b ≤ i → Full N m ds k b j → Full N m (ds.set k0 d1) k b j := fun hbi hf => hf.set (i := i) hk0 he0 hd (fun e he => by rw [(he1 e he).1]; exact hbi)
  have hget : ∀ {k : Nat} {d : Dg}, (ds.set k0 d1)[k]? = some d → (k = k0 ∧ d = d1) ∨ (k ≠ k0 ∧ ds[k]? = some d) := fun h => get_set h
  have hcallD : ∀ (k : Nat) (d : Dg), (ds.set k0 d1)[k]? = some d → ∃ c, callOf m d.t d.c = some c ∧ OkC c := fun k d hk => by
    rcases hget hk with ⟨_, rfl⟩ | ⟨_, hk⟩
    · rw [hd.2.1, hd.2.2]; exact h.call k0 d0 hk0
    · exact h.call k d hk
  -- the other threads
  have hoth : ∀ {H' : List Lg}, (∀ x, x ∈ H → x ∈ H') → (∀ x, x ∈ H' → x ∈ H ∨ x.k = k0) → ∀ (n' nx ci : Nat) (t : Th), n' ≠ n → ths[n']? = some ⟨nx, some (ci, t)⟩ → 1 ≤ nx ∧ ∃ c ph, callOf m n' (nx - 1) = some c ∧ ci = c.code ∧ P' c ph t ∧ ∀ (k : Nat) (d : Dg), (ds.set k0 d1)[k]? = some d → d.t = n' → d.c = nx - 1 → PhOk N m (ds.set k0 d1) H' (i + 1) k d ph := by
    intro H' hs hs2 n' nx ci t hne ht
    obtain ⟨a1, c', ph2, a2, a3, a4, a5⟩ := h.th n' nx ci t ht
    have a4' : P' c' ph2 t := hoP n' (nx - 1) t c' ph2 hne (by rw [show nx - 1 + 1 = nx by omega, ← a3]; exact ht) a2 a4
    refine ⟨a1, c', ph2, a2, a3, a4', fun k d hk hdt hdc => ?_⟩
    rcases hget hk with ⟨e1, e2⟩ | ⟨hkk, hk⟩
    · subst e2; exact absurd (by rw [← hdt, hd.2.1, ht0]) hne
    · have := a5 k d hk hdt hdc
      have hno : (∀ x ∈ H, x.k ≠ k) → ∀ x ∈ H', x.k ≠ k := fun hh x hx => by
        rcases hs2 x hx with h1 | h1
        · exact hh x h1
        · rw [h1]; exact fun e => hkk e.symm
      cases ph2 with
      | no => exact hno this
      | done v => obtain ⟨x, b1, b2⟩ := this; exact ⟨x, hs x b1, b2⟩
      | ref => exact ⟨hno this.1, hfull (hb k d hk) (this.2.mono (Nat.le_succ i))⟩
  have hown : ∀ {H' : List Lg}, (d1 = d0 → PhOk N m ds H' (i + 1) k0 d0 ph') → (∀ x, x ∈ H → x ∈ H') → (∀ x, x ∈ H' → x ∈ H ∨ x.k = k0) → ∀ (n' nx ci : Nat) (t : Th), (ths.set n p')[n']? = some ⟨nx, some (ci, t)⟩ → 1 ≤ nx ∧ ∃ c ph, callOf m n' (nx - 1) = some c ∧ ci = c.code ∧ P' c ph t ∧ ∀ (k : Nat) (d : Dg), (ds.set k0 d1)[k]? = some d → d.t = n' → d.c = nx - 1 → PhOk N m (ds.set k0 d1) H' (i + 1) k d ph := by
    intro H' h0 hs hs2 n' nx ci t hn'
    rcases get_set hn' with ⟨e1, e2⟩ | ⟨e1, e2⟩
    · subst e1
      obtain ⟨b1, b2, b3, b4⟩ := hp ci t (by rw [← e2])
      rw [← e2] at b2
      have b2 : nx = d0.c + 1 := b2
      refine ⟨by omega, c, ph', by rw [b2, Nat.add_sub_cancel]; exact hc, b3, b4, fun k d hk hdt hdc => ?_⟩
      rw [b2, Nat.add_sub_cancel] at hdc
      have hst : ds.set k0 d1 = ds := by rw [b1]; exact setSelf hk0
      rw [hst] at hk ⊢
      have hkk := huniq k d hk hdt hdc
      subst hkk
      rw [hk0] at hk; injection hk with hk; subst hk
      exact h0 b1
    · exact hoth hs hs2 n' nx ci t e1 e2
  -- an effect that is told of already
  have hsame : l' = l → ph' = ph ∨ (ph = .no ∧ ph' = .ref ∧ isPut c = true ∧ N ≤ l.length) → LI q N m P' (i + 1) (ths.set n p') (ds.set k0 d1) H l' := by
    intro hl hpp
    subst hl
    refine ⟨h.seq, h.nd, fun x hx => ?_, hcallD, fun k d e hk he => ?_, h.rt.imp_of_mem fun {x y} hx hy hxy dx dy e h1 h2 h3 => ?_, hown ?_ (fun x h => h) (fun x h => .inl h)⟩
    · obtain ⟨d, c', b1, b2, b3, b4, b5, b6⟩ := h.ent x hx
      by_cases e : x.k = k0
      · have b1' := b1
        rw [e, hk0] at b1'; injection b1' with b1'; subst b1'
        rw [hcall0] at b2; injection b2 with b2; subst b2
        refine ⟨d1, c, by rw [e]; exact set_at hk0 _, hcall, b3, b4, by rw [hd.1]; omega, fun e2 he2 => ?_⟩
        obtain ⟨_, c1, _, c2⟩ := he1 e2 he2
        subst c1
        rcases c2 with ⟨v, c2, c3⟩ | ⟨_, c2, c3⟩
        · subst c2
          obtain ⟨y, hy, hy1, hy2⟩ := hph
          have := ent_uniq h.nd hx hy (by rw [e, hy1])
          subst this
          rw [c3, b3, hy2]
        · subst c2
          exact absurd e (hph.1 x hx)
      · exact ⟨d, c', set_get b1 (fun e' => e e'.symm) _, b2, b3, b4, by omega, b6⟩
    · rcases hget hk with ⟨e1, e2⟩ | ⟨hkk, hk⟩
      · subst e1 e2
        obtain ⟨c0, c1, _, c2⟩ := he1 e he
        subst c1
        rcases c2 with ⟨v, c2, c3⟩ | ⟨c4, c2, c3⟩
        · subst c2
          obtain ⟨y, hy, hy1, hy2⟩ := hph
          exact .inl ⟨y, hy, hy1⟩
        · subst c2
          refine .inr ⟨by rw [hput1]; exact c4, c3, ?_⟩
          have := hph.2
          rw [hd.1, c0]
          exact hfull (hb k d0 hk0) this
      · rcases h.cov k d e hk he with h1 | ⟨h1, h2, h3⟩
        · exact .inl h1
        · exact .inr ⟨h1, h2, hfull (hb k d hk) h3⟩
    · rcases hget h1 with ⟨_, e1⟩ | ⟨_, h1⟩
      · rcases hget h2 with ⟨_, e2⟩ | ⟨_, h2⟩
        · rw [e2] at h3
          rw [e1, (he1 e h3).1, hd.1]; exact hb k0 d0 hk0
        · rw [e1, hd.1]
          rename_i e3 _ _
          have hx0 : x.k = k0 := by assumption
          exact hxy d0 dy e (by rw [hx0]; exact hk0) h2 h3
      · rcases hget h2 with ⟨_, e2⟩ | ⟨_, h2⟩
        · rw [e2] at h3
          rw [(he1 e h3).1]; exact hb _ dx h1
        · exact hxy dx dy e h1 h2 h3
    · intro hdd
      rcases hpp with rfl | ⟨e1, e2, e3, e4⟩
      · cases ph' with
        | no => exact hph
        | done v => exact hph
        | ref => exact ⟨hph.1, hph.2.mono (Nat.le_succ i)⟩
      · subst e1 e2
        exact ⟨hph, (h.full hph e4).mono (Nat.le_succ i)⟩
  -- a new effect
  have hnew : ph = .no → (∀ e, d1.e ≠ some e) → ∀ v, ph' = .done v → (isPut c = true → v = argV c) → (otell q l (isPut c) v).1 = v → l' = (otell q l (isPut c) v).2 → LI q N m P' (i + 1) (ths.set n p') (ds.set k0 d1) (H ++ [⟨k0, isPut c, v⟩]) l' := by
    intro e1 hne v e2 e3 e4 e5
    subst e1 e2 e5
    have hph : ∀ x ∈ H, x.k ≠ k0 := hph
    refine ⟨h.seq.snoc (x := ⟨k0, isPut c, v⟩) e4, ?_, fun x hx => ?_, hcallD, fun k d e hk he => ?_, ?_, hown ?_ (fun x h => List.mem_append_left _ h) (fun x h => ?_)⟩
    · rw [List.map_append, List.nodup_append]
      refine ⟨h.nd, by simp, fun a ha b hb2 => ?_⟩
      simp only [List.map_cons, List.map_nil, List.mem_singleton] at hb2
      obtain ⟨x, hx, rfl⟩ := List.mem_map.1 ha
      rw [hb2]; exact hph x hx
    · rcases List.mem_append.1 hx with hx | hx
      · obtain ⟨d, c', b1, b2, b3, b4, b5, b6⟩ := h.ent x hx
        exact ⟨d, c', set_get b1 (fun e' => hph x hx e'.symm) _, b2, b3, b4, by omega, b6⟩
      · rw [List.mem_singleton.1 hx]
        exact ⟨d1, c, set_at hk0 _, hcall, rfl, e3, by rw [hd.1]; exact Nat.lt_succ_of_le (hb k0 d0 hk0), fun e he => absurd he (hne e)⟩
    · rcases hget hk with ⟨f1, f2⟩ | ⟨hkk, hk⟩
      · subst f1 f2; exact absurd he (hne e)
      · rcases h.cov k d e hk he with ⟨x, h1, h2⟩ | ⟨h1, h2, h3⟩
        · exact .inl ⟨x, List.mem_append_left _ h1, h2⟩
        · exact .inr ⟨h1, h2, hfull (hb k d hk) h3⟩
    · rw [List.pairwise_append]
      refine ⟨h.rt.imp_of_mem fun {x y} hx hy hxy dx dy e h1 h2 h3 => ?_, by simp, fun x hx y hy dx dy e h1 h2 h3 => ?_⟩
      · rcases hget h1 with ⟨f1, _⟩ | ⟨_, h1⟩
        · exact absurd f1 (hph x hx)
        · rcases hget h2 with ⟨f1, _⟩ | ⟨_, h2⟩
          · exact absurd f1 (hph y hy)
          · exact hxy dx dy e h1 h2 h3
      · rw [List.mem_singleton.1 hy] at h2
        rcases hget h2 with ⟨_, f2⟩ | ⟨f1, _⟩
        · rw [f2] at h3; exact absurd h3 (hne e)
        · exact absurd rfl f1
    · intro _
      exact ⟨_, List.mem_append_right _ (List.mem_singleton.2 rfl), rfl, rfl⟩
    · rcases List.mem_append.1 h with h1 | h1
      · exact .inl h1
      · rw [List.mem_singleton.1 h1]; exact .inr rfl
  rcases heff with ⟨f1, f2⟩ | ⟨f1, f2, f3, f4⟩ | ⟨f1, f2, f3, f4⟩ | ⟨f1, f2, f3, f4, f5⟩
  · exact ⟨H, hsame f2 (.inl f1)⟩
  · have hne : ∀ e, d1.e ≠ some e := fun e he => by rw [(he1 e he).2.1, f1] at f3; cases f3
    exact ⟨_, hnew f1 hne _ f3 (fun _ => rfl) (by rw [f2]; rfl) (by rw [f4, f2]; rfl)⟩
  · have hne : ∀ e, d1.e ≠ some e := fun e he => by rw [(he1 e he).2.1, f1] at f3; cases f3
    exact ⟨_, hnew f1 hne _ f3 (fun hx => by rw [f2] at hx; cases hx) (by rw [f2]; exact rfl) (by rw [f4, f2]; rfl)⟩
  · exact ⟨H, hsame f4 (.inr ⟨f1, f3, f2, f5⟩)⟩
end
/-- what every run of an object keeps -/
theorem log_keeps {q : Bool} {N : Nat} {m : Mach} {P : List Int → VCall → Ph → Th → Prop} {G : List PT → List Int → List Int → Prop} (M : ObjM q N m P G) (l : List Nat) : PKeeps m l (fun i ths ws ds => ∃ H s, G ths ws s ∧ LI q N m (P ws) i ths ds H s) where
  idle := by
    rintro i s n hi hD ⟨H, x, hG, h⟩ hn
    refine ⟨H, x, hG, h.seq, h.nd, fun y hy => ?_, h.call, h.cov, h.rt, fun n nx ci t ht => ?_⟩
    · obtain ⟨d, c, b1, b2, b3, b4, b5, b6⟩ := h.ent y hy
      exact ⟨d, c, b1, b2, b3, b4, by omega, b6⟩
    · obtain ⟨a1, c, ph, a2, a3, a4, a5⟩ := h.th n nx ci t ht
      refine ⟨a1, c, ph, a2, a3, a4, fun k d hk h1 h2 => ?_⟩
      have := a5 k d hk h1 h2
      cases ph with
      | no => exact this
      | done v => exact this
      | ref => exact ⟨this.1, this.2.mono (Nat.le_succ i)⟩
  begin_ := by
    rintro i s n nx calls c hi hD ⟨H, x, hG, h⟩ hn hc hcc
    have hcall : callOf m n nx = some c := by unfold callOf; rw [hc]; exact hcc
    obtain ⟨hP, hG'⟩ := M.beg _ _ _ n nx c hG hn hcall
    have hb : ∀ (k : Nat) (d : Dg), (doings s.evs)[k]? = some d → d.b < i := fun k d hk => (hD.time k d hk).1
    have hHl : ∀ y ∈ H, y.k < (doings s.evs).length := fun y hy => by
      obtain ⟨d, c, b1, _⟩ := h.ent y hy
      exact (List.getElem?_eq_some_iff.1 b1).1
    refine ⟨H, x, hG', h.seq, h.nd, fun y hy => ?_, fun k d hk => ?_, fun k d e hk he => ?_, h.rt.imp_of_mem fun {y z} hy hz hyz dx dy e h1 h2 h3 => ?_, fun n' nx' ci t ht => ?_⟩
    · obtain ⟨d, c, b1, b2⟩ := h.ent y hy
      exact ⟨d, c, snoc_get b1 _, b2⟩
    · rcases get_snoc hk with hk | ⟨_, rfl⟩
      · exact h.call k d hk
      · exact ⟨c, hcall, M.call n nx c hcall⟩
    · rcases get_snoc hk with hk | ⟨_, rfl⟩
      · rcases h.cov k d e hk he with h1 | ⟨h1, h2, h3⟩
        · exact .inl h1
        · exact .inr ⟨h1, h2, h3.snoc _ rfl⟩
      · cases he
    · rcases get_snoc h1 with h1 | ⟨f1, _⟩
      · rcases get_snoc h2 with h2 | ⟨f1, _⟩
        · exact hyz dx dy e h1 h2 h3
        · have := hHl z hz; omega
      · have := hHl y hy; omega
    · rcases get_set ht with ⟨e1, e2⟩ | ⟨e1, e2⟩
      · injection e2 with e3 e4; injection e4 with e4; injection e4 with e4 e5
        subst e1 e3 e4 e5
        refine ⟨by omega, c, .no, by rw [Nat.add_sub_cancel]; exact hcall, rfl, hP, fun k d hk h1 h2 y hy => ?_⟩
        rw [Nat.add_sub_cancel] at h2
        rcases get_snoc hk with hk | ⟨f1, _⟩
        · obtain ⟨p, hp, h3, _⟩ := hD.lt k d hk
          rw [h1, hn] at hp; injection hp with hp; subst hp
          simp only at h3; omega
        · have := hHl y hy; omega
      · obtain ⟨a1, c', ph, a2, a3, a4, a5⟩ := h.th n' nx' ci t e2
        refine ⟨a1, c', ph, a2, a3, a4, fun k d hk h1 h2 => ?_⟩
        rcases get_snoc hk with hk | ⟨_, rfl⟩
        · have := a5 k d hk h1 h2
          cases ph with
          | no => exact this
          | done v => exact this
          | ref => exact ⟨this.1, this.2.snoc _ rfl⟩
        · exact absurd h1.symm e1
  cont := by
    rintro i s n nx ci t hi hD ⟨H, x, hG, h⟩ hn hov
    obtain ⟨k0, d0, hk0, ht0, hdc0, he0, _⟩ := hD.cur hn rfl
    have hdc0 : d0.c = nx - 1 := hdc0
    obtain ⟨a1, c, ph, a2, a3, a4, a5⟩ := h.th n nx ci t hn
    subst a3
    obtain ⟨nx, rfl⟩ : ∃ y, nx = y + 1 := ⟨nx - 1, by omega⟩
    rw [Nat.add_sub_cancel] at hdc0 a2 a5
    have hb : ∀ (k : Nat) (d : Dg), (doings s.evs)[k]? = some d → d.b ≤ i := fun k d hk => Nat.le_of_lt_succ (hD.time k d hk).1
    obtain ⟨hoP, ph', l', e1, e2⟩ := M.act _ _ _ n nx t c ph hG hn a2 a4
    rcases e2 with ⟨f1, f2, f3, f4⟩ | ⟨f1, _⟩
    · obtain ⟨H', hL⟩ := h.own hk0 hn ht0 he0 hoP (fun k d hk h1 h2 => hD.uniq k k0 d d0 hk hk0 (by rw [h1, ht0]) h2) hb ⟨nx + 1, some (c.code, (vstep (m.codes.getD c.code []) t s.words).1)⟩ d0 ⟨rfl, rfl, rfl⟩ (by rw [hdc0]; exact a2) (a5 k0 d0 hk0 ht0 hdc0) f2
        (fun ci t2 e => by injection e with e; injection e with g1 g2; subst g1 g2; exact ⟨rfl, by rw [hdc0], rfl, f3⟩) (fun e he => by rw [he0] at he; cases he)
      rw [setSelf hk0] at hL
      exact ⟨H', l', f4, hL⟩
    · rw [f1] at hov; cases hov
  fin_ := by
    rintro i s n nx ci t k0 d0 hi hD ⟨H, x, hG, h⟩ hn hov hk0 ht0 hdc0 he0 htold
    obtain ⟨a1, c, ph, a2, a3, a4, a5⟩ := h.th n nx ci t hn
    subst a3
    obtain ⟨nx, rfl⟩ : ∃ y, nx = y + 1 := ⟨nx - 1, by omega⟩
    rw [Nat.add_sub_cancel] at hdc0 a2 a5
    have hb : ∀ (k : Nat) (d : Dg), (doings s.evs)[k]? = some d → d.b ≤ i := fun k d hk => Nat.le_of_lt_succ (hD.time k d hk).1
    obtain ⟨hoP, ph', l', e1, e2⟩ := M.act _ _ _ n nx t c ph hG hn a2 a4
    rcases e2 with ⟨f1, _⟩ | ⟨f1, f2, f3, f4, f5⟩
    · rw [f1] at hov; cases hov
    · obtain ⟨H', hL⟩ := h.own hk0 hn ht0 he0 hoP (fun k d hk h1 h2 => hD.uniq k k0 d d0 hk hk0 (by rw [h1, ht0]) h2) hb ⟨nx + 1, none⟩ { d0 with e := some i, told := (vstep (m.codes.getD c.code []) t s.words).1.told } ⟨rfl, rfl, rfl⟩ (by rw [hdc0]; exact a2) (a5 k0 d0 hk0 ht0 hdc0) (.inl ⟨f2, f3⟩)
        (fun ci t2 e => by cases e) (fun e he => by injection he with he; exact ⟨he.symm, f2, f3, f4⟩)
      exact ⟨⟨H', l', f5, hL⟩, e1⟩
theorem log_play {q : Bool} {N : Nat} {m : Mach} {P : List Int → VCall → Ph → Th → Prop} {G : List PT → List Int → List Int → Prop} (M : ObjM q N m P G) (hG : G (pinit m).ths m.words []) (l : List Nat) :
    (∃ H s, G (play m l).ths (play m l).words s ∧ LI q N m (P (play m l).words) l.length (play m l).ths (doings (play m l).evs) H s) ∧ NoErr (play m l).evs := by
  refine (log_keeps M l).play ⟨[], [], hG, rfl, by simp, fun x hx => by simp at hx, fun k d h => by simp at h, fun k d e h => by simp at h, by simp, fun n nx ci t h => ?_⟩
  unfold pinit at h
  simp only [List.getElem?_replicate] at h
  split at h
  · injection h with h; injection h with _ h; cases h
  · cases h
end Go.Proofs.YtiinnkdhccgelaaDoor
