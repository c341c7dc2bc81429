/-
  ConsOne: its walk. Written by gen_conso.py.
-/
import Derived.Test.YtnoinojhocicjaaDoorConsAt
namespace Go.Proofs.YtnoinojhocicjaaDoor
open Go.RowKit
set_option linter.unusedVariables false

/-- the first region of conso's machine -/
structure consoR (w0 : World)  (L : Nat → Bool) (x16 x17 x18 x19 x20 x5 : Value) (w : World) : Prop where
  b : Below w0.heap.size w0 w
  f0 : L 0 = true → w.ownsRow w0.heap.size 3 1 x16 1 (([-1]).flatMap gI)
  f1 : L 1 = true → w.ownsRow w0.heap.size 81 5 x17 (consCode).length ((consCode).flatMap gO)
  f2 : L 2 = true → ∃ b, x18 = .slice (some ⟨b, 0, none⟩) 1 1 ∧ w0.heap.size ≤ b ∧ Blk w b 33 #[x17]
  f3 : L 3 = true → ∃ b, x19 = .slice (some ⟨b, 0, none⟩) 4 4 ∧ w0.heap.size ≤ b ∧ Blk w b 44 #[.slice none 0 0, .slice none 0 0, .slice none 0 0, .slice none 0 0]
  f4 : L 4 = true → x20 = .agg #[x16, x18, x19]
  f5 : L 5 = true → L 6 = false → ∃ b, x5 = .pointer (some ⟨b, 0, none⟩) ∧ w0.heap.size ≤ b ∧ Blk w b 27 #[.slice none 0 0, .slice none 0 0, .slice none 0 0]
  f6 : L 6 = true → ∃ b, x5 = .pointer (some ⟨b, 0, none⟩) ∧ w0.heap.size ≤ b ∧ Blk w b 27 #[x16, x18, x19]
section
variable {w0 : World}  {L : Nat → Bool} {x16 x17 x18 x19 x20 x5 : Value} {w w' : World}
theorem consoR.below (h : consoR w0 L x16 x17 x18 x19 x20 x5 w) (hb : Below w.heap.size w w') : consoR w0 L x16 x17 x18 x19 x20 x5 w' where
  b := bgo h.b hb
  f0 := fun e => own_below (h.f0 e) hb
  f1 := fun e => own_below (h.f1 e) hb
  f2 := fun e => by obtain ⟨b, h1, h2, h3⟩ := h.f2 e; exact ⟨b, h1, h2, h3.below' hb⟩
  f3 := fun e => by obtain ⟨b, h1, h2, h3⟩ := h.f3 e; exact ⟨b, h1, h2, h3.below' hb⟩
  f4 := h.f4
  f5 := fun e e' => by obtain ⟨b, h1, h2, h3⟩ := h.f5 e e'; exact ⟨b, h1, h2, h3.below' hb⟩
  f6 := fun e => by obtain ⟨b, h1, h2, h3⟩ := h.f6 e; exact ⟨b, h1, h2, h3.below' hb⟩
theorem consoR.store {X : Nat} {L' : Nat → Bool} (h : consoR w0 L x16 x17 x18 x19 x20 (.pointer (some ⟨X, 0, none⟩)) w) (hX : w0.heap.size ≤ X)
    (hb : Blk w X 27 #[.slice none 0 0, .slice none 0 0, .slice none 0 0]) (hL : ∀ i, i ≠ 6 → L' i = L i) (h9 : L' 6 = true) :
    consoR w0 L' x16 x17 x18 x19 x20 (.pointer (some ⟨X, 0, none⟩)) (((w.setCell ⟨X, 0, none⟩ x16).setCell ⟨X, 1, none⟩ x18).setCell ⟨X, 2, none⟩ x19) := by
  have hC : Chg (fun k => k = X) w (((w.setCell ⟨X, 0, none⟩ x16).setCell ⟨X, 1, none⟩ x18).setCell ⟨X, 2, none⟩ x19) :=
    (((Chg.refl (fun k => k = X) w).setCell (p := ⟨X, 0, none⟩) (fun _ => rfl) _).setCell (p := ⟨X, 1, none⟩) (fun _ => rfl) _).setCell (p := ⟨X, 2, none⟩) (fun _ => rfl) _
  have bk : ∀ {g t : Nat} {cs : Array Value}, t ≠ 27 → Blk w g t cs → Blk (((w.setCell ⟨X, 0, none⟩ x16).setCell ⟨X, 1, none⟩ x18).setCell ⟨X, 2, none⟩ x19) g t cs := fun h1 h2 => hC.blk h2 fun e => by subst e; exact h1 (blk_ty h2 hb)
  have ok : ∀ {B e sz : Nat} {v' : Value} {n : Nat} {xs : List Value}, e ≠ 27 → w.ownsRow B e sz v' n xs → (((w.setCell ⟨X, 0, none⟩ x16).setCell ⟨X, 1, none⟩ x18).setCell ⟨X, 2, none⟩ x19).ownsRow B e sz v' n xs := fun h1 h2 => own_chg h2 hC fun k hk e => own_ne_blk h2 hb h1 (by rw [hk, e])
  have e0 := hL 0 (by decide)
  have e1 := hL 1 (by decide)
  have e2 := hL 2 (by decide)
  have e3 := hL 3 (by decide)
  have e4 := hL 4 (by decide)
  refine ⟨((h.b.setCell (p := ⟨X, 0, none⟩) hX _).setCell (p := ⟨X, 1, none⟩) hX _).setCell (p := ⟨X, 2, none⟩) hX _, ?_, ?_, ?_, ?_, ?_, ?_, ?_⟩
  · rw [e0]; intro e; exact ok (by decide) (h.f0 e)
  · rw [e1]; intro e; exact ok (by decide) (h.f1 e)
  · rw [e2]; intro e; obtain ⟨b, h1, h2, h3⟩ := h.f2 e; exact ⟨b, h1, h2, bk (by decide) h3⟩
  · rw [e3]; intro e; obtain ⟨b, h1, h2, h3⟩ := h.f3 e; exact ⟨b, h1, h2, bk (by decide) h3⟩
  · rw [e4]; exact h.f4
  · intro _ e; rw [h9] at e; cases e
  · intro _; exact ⟨X, rfl, hX, ((hb.set_ 0 _).set_ 1 _).set_ 2 _⟩
end
/-- what the call k proposes -/
def cval (xs : List Int) (k : Nat) : Nat := match xs[k]? with | some x => pk x 1099511627776 | none => 3
/-- the calls of thread j among the first k -/
def consThs (xs : List Int) : Nat → Nat → List VCall
  | 0, _ => []
  | k + 1, j => if k % 4 = j then consThs xs k j ++ [⟨0, [(cval xs k : Int)]⟩] else consThs xs k j
theorem consThs_len (xs : List Int) : ∀ (k j : Nat), (consThs xs k j).length ≤ k
  | 0, _ => Nat.le_refl _
  | k + 1, j => by
    have := consThs_len xs k j
    unfold consThs
    split
    · rw [List.length_append, List.length_singleton]; omega
    · omega
theorem consThs_mem (xs : List Int) : ∀ (k j : Nat) (c : VCall), c ∈ consThs xs k j → ∃ z : Nat, c = ⟨0, [(z : Int)]⟩
  | 0, _, c, h => by cases h
  | k + 1, j, c, h => by
    unfold consThs at h
    split at h
    · rcases List.mem_append.1 h with h | h
      · exact consThs_mem xs k j c h
      · exact ⟨_, List.mem_singleton.1 h⟩
    · exact consThs_mem xs k j c h
theorem consThs_upd (xs : List Int) {k j : Nat} (hj : k % 4 = j) : upd (consThs xs k) j (consThs xs k j ++ [⟨0, [(cval xs k : Int)]⟩]) = consThs xs (k + 1) := by
  subst hj
  funext j
  unfold upd
  rw [show consThs xs (k + 1) j = if k % 4 = j then consThs xs k j ++ [⟨0, [(cval xs k : Int)]⟩] else consThs xs k j from rfl]
  by_cases h : j = k % 4
  · subst h; simp
  · rw [if_neg h, if_neg (fun e => h e.symm)]
def consMO (xs : List Int) : Mach := ⟨[-1], [consCode], (List.range 4).map (consThs xs 12)⟩
theorem consMO_th {xs : List Int} {n : Nat} {calls : List VCall} (h : (consMO xs).threads[n]? = some calls) : n < 4 ∧ calls = consThs xs 12 n := by
  unfold consMO at h
  rw [List.getElem?_map] at h
  obtain ⟨u, hu, rfl⟩ := Option.map_eq_some_iff.1 h
  rw [List.getElem?_eq_some_iff] at hu
  obtain ⟨h1, h2⟩ := hu
  simp at h1 h2
  exact ⟨h1, by rw [h2]⟩
theorem consMO_ok (xs : List Int) : ConsM (consMO xs) [-1] := by
  refine ⟨rfl, rfl, fun n calls nx c hc hcc => ?_⟩
  obtain ⟨_, rfl⟩ := consMO_th hc
  obtain ⟨z, rfl⟩ := consThs_mem xs 12 n c (List.mem_of_getElem? hcc)
  exact ⟨rfl, (z : Int), rfl, by omega⟩
theorem propMO {xs : List Int} {n c : Nat} {x : Int} (h : propOf (consMO xs) n c = some x) : n < 4 ∧ c < (consThs xs 12 n).length ∧ (consThs xs 12 n)[c]? = some ⟨0, [x]⟩ := by
  unfold propOf at h
  rw [Option.bind_eq_some_iff] at h
  obtain ⟨calls, h1, h2⟩ := h
  rw [Option.bind_eq_some_iff] at h2
  obtain ⟨v, h3, h4⟩ := h2
  obtain ⟨hn, rfl⟩ := consMO_th h1
  obtain ⟨z, rfl⟩ := consThs_mem xs 12 n v (List.mem_of_getElem? h3)
  simp at h4
  subst h4
  exact ⟨hn, (List.getElem?_eq_some_iff.1 h3).1, h3⟩
theorem consO_at {w : World} {B Cb T : Nat} {cv tv : Nat → Value} {av : Nat → List SV} {xs : List Int} (h : MN B w 1 4 Cb T cv (fun i => [consCode].getD i []) tv (consThs xs 12) av) : MachAt w (some ⟨Cb, 0, none⟩) 1 (some ⟨T, 0, none⟩) 4 (consMO xs) := by
  refine h.at_ rfl rfl (fun i hi => ?_) (fun j hj => ?_)
  · obtain rfl : i = 0 := by omega
    exact ⟨by decide, cons_sh⟩
  · refine ⟨by have := consThs_len xs 12 j; omega, fun c hc => ?_⟩
    obtain ⟨z, rfl⟩ := consThs_mem xs 12 j c hc
    exact ⟨by simp, by simp⟩
theorem consO_code {w : World} {B Cb T : Nat} {cv tv : Nat → Value} {av : Nat → List SV} {th : Nat → List VCall} (h : MN B w 1 4 Cb T cv (fun i => [consCode].getD i []) tv th av) : ∃ A c, w.cell? ⟨Cb, 0, none⟩ = some (.slice A 4 c) := by
  have h2 := h.os 0 (by decide)
  obtain ⟨A, c, e, _⟩ := own_form h2
  exact ⟨A, c, by rw [h.cb.cell 0, arrN_at cv (by decide : 0 < 1), e]; rfl⟩
/-- which call ended first, as far as was looked -/
def FirstAt (ds : List Dg) (k : Nat) (fi : Int) : Prop := fi = -1 ∨ ∃ (f : Nat) (d : Dg) (e : Nat), fi = (f : Int) ∧ f < k ∧ ds[f]? = some d ∧ d.e = some e
theorem FirstAt.up {ds : List Dg} {k : Nat} {fi : Int} (h : FirstAt ds k fi) : FirstAt ds (k + 1) fi := by
  rcases h with h | ⟨f, d, e, a, b, c⟩
  · exact .inl h
  · exact .inr ⟨f, d, e, a, by omega, c⟩
/-- whether somebody proposed it in time -/
structure PropIn (m : Mach) (ds : List Dg) (y : Int) (e j : Nat) (pb : Bool) : Prop where
  all : ∀ (j' : Nat) (d' : Dg), j' < j → ds[j']? = some d' → propOf m d'.t d'.c = some y → d'.b ≤ e → pb = true
theorem PropIn.next {m : Mach} {ds : List Dg} {d2 : Dg} {y : Int} {e j : Nat} {pb : Bool} (h : PropIn m ds y e j pb) (h2 : ds[j]? = some d2) (pb' : Bool) (h3 : pb = true → pb' = true) (h4 : propOf m d2.t d2.c = some y → d2.b ≤ e → pb' = true) : PropIn m ds y e (j + 1) pb' := by
  refine ⟨fun j' d' hj' hd' a b => ?_⟩
  by_cases e1 : j' = j
  · subst e1
    have := h2.symm.trans hd'
    injection this with this
    subst this
    exact h4 a b
  · exact h3 (h.all j' d' (by omega) hd' a b)
theorem spent_cnt (d : Dg) (l : List Nat) (h : ∀ e, d.e = some e → e < l.length) : spentOf d l = cnt l d.b (match d.e with | none => l.length | some e => e + 1) d.t := by
  unfold spentOf cnt
  cases he : d.e with
  | none => rfl
  | some e =>
    have := h e he
    show List.count d.t (((l.drop d.b).take (min l.length (e + 1) - d.b))) = _
    rw [Nat.min_eq_right (by omega)]
set_option maxHeartbeats 8000000 in
set_option maxRecDepth 100000 in
theorem law_consOne (D : Option Addr) (r s : Nat) (cs : List Int) (S : Option Addr) (p q : Nat) (bs : List UInt8) (w : World)
    (hr : r ≤ s) (hs : s ≤ maxLen) (_ : s * 8 ≤ 140737488351232) (hD : Sl w 1 D r (ints cs)) (hcs : ∀ x ∈ cs, -9223372036854775808 ≤ x ∧ x ≤ 9223372036854775807)
    (hp : p ≤ q) (hq : q ≤ maxLen) (_ : q * 1 ≤ 140737488351232) (hS : Sl w 1 S p (byts bs)) (hT : STab w) :
    Calls Tryd.prog 5 #[.slice D r s, .slice S p q] w fun e w' => e = .returned (.bool true) ∧ Below w.heap.size w w' := by
  have HDD := hid hD; have HCS := hid hcs; have HS := hid hS; have HT := hid hT; have HRL := hid hD.leni
  clear hD hcs hS hT
  have hpl : p ≤ 9223372036854775807 := by unfold maxLen at hq; omega
  have hrl : r ≤ 9223372036854775807 := by unfold maxLen at hs; omega
  clear hq hs
  go_enter Tryd.func5, Tryd.ntmps5
  go_upto_region 1 with fail
  have B0 := hid (bnil w)
  have B00 := B0.out.size
  refine wp_region_inv (by kernel_rfl) (fun a0 L a wr => ∃ x16 x17 x18 x19 x20 x5, a = ((((((a0.put (some 16) x16).put (some 17) x17).put (some 18) x18).put (some 19) x19).put (some 20) x20).put (some 5) x5) ∧ consoR w L x16 x17 x18 x19 x20 x5 wr) (by kernel_rfl) ?_ ?_ ?_
  · exact ⟨undef, undef, undef, undef, undef, undef, by kernel_rfl, ⟨(bnil w).drew, (fun h => by cases h), (fun h => by cases h), (fun h => by cases h), (fun h => by cases h), (fun h => by cases h), (fun h => by cases h), (fun h => by cases h)⟩⟩
  · intro j hj L b wr hR hLj hcl hpre
    obtain ⟨x16, x17, x18, x19, x20, x5, rfl, H⟩ := hR
    have hj' : j = 0 ∨ j = 1 ∨ j = 2 ∨ j = 3 ∨ j = 4 ∨ j = 5 ∨ j = 6 := by
      have : j < 7 := hj
      omega
    have lt0 := H.b.size
    rcases hj' with rfl | rfl | rfl | rfl | rfl | rfl | rfl
    · have hA : L 4 ≠ true := fun e => by have := hcl 4 0 (by kernel_rfl) e; rw [hLj] at this; cases this
      have hS : L 6 ≠ true := fun e => hA (hcl 6 4 (by kernel_rfl) e)
      clear hcl hpre
      refine wpOp_at rfl rfl fun K hK => ?_
      go_simp
      refine (cons_words wr).mono ?_
      rintro e w1 ⟨v, rfl, ho⟩
      have Hb := H.below ho.below
      exact hK _ _ ⟨v, x17, x18, x19, x20, x5, by kernel_rfl, ⟨Hb.b, fun _ => own_lower ho.own lt0, Hb.f1, Hb.f2, Hb.f3, fun e => absurd e hA, Hb.f5, fun e => absurd e hS⟩⟩
    · have hB : L 2 ≠ true := fun e => by have := hcl 2 1 (by kernel_rfl) e; rw [hLj] at this; cases this
      clear hcl hpre
      refine wpOp_at rfl rfl fun K hK => ?_
      go_simp
      refine (cons_propose wr).mono ?_
      rintro e w1 ⟨v, rfl, ho⟩
      have Hb := H.below ho.below
      exact hK _ _ ⟨x16, v, x18, x19, x20, x5, by kernel_rfl, ⟨Hb.b, Hb.f0, fun _ => own_lower ho.own lt0, fun e => absurd e hB, Hb.f3, Hb.f4, Hb.f5, Hb.f6⟩⟩
    · have hA : L 4 ≠ true := fun e => by have := hcl 4 2 (by kernel_rfl) e; rw [hLj] at this; cases this
      have hS : L 6 ≠ true := fun e => hA (hcl 6 4 (by kernel_rfl) e)
      obtain ⟨A1, k1, e1, _⟩ := own_form (H.f1 (hpre 1 (by kernel_rfl)))
      clear hcl hpre
      refine wpOp_at rfl rfl fun K hK => ?_
      subst e1
      go_simp
      have Hb := H.below (bnew (bnil wr) (.cells #[.slice A1 (consCode).length k1] 33))
      exact hK _ _ ⟨x16, _, .slice (some ⟨wr.heap.size, 0, none⟩) 1 1, x19, x20, x5, by kernel_rfl, ⟨Hb.b, Hb.f0, Hb.f1, fun _ => ⟨wr.heap.size, rfl, lt0, Blk.new wr _ _⟩, Hb.f3, fun e => absurd e hA, Hb.f5, fun e => absurd e hS⟩⟩
    · have hA : L 4 ≠ true := fun e => by have := hcl 4 3 (by kernel_rfl) e; rw [hLj] at this; cases this
      have hS : L 6 ≠ true := fun e => hA (hcl 6 4 (by kernel_rfl) e)
      clear hcl hpre
      refine wpOp_at rfl rfl fun K hK => ?_
      have hmk := mkT4 wr
      go_simp
      have Hb := H.below (bnew (bnil wr) (.cells #[.slice none 0 0, .slice none 0 0, .slice none 0 0, .slice none 0 0] 44))
      exact hK _ _ ⟨x16, x17, x18, .slice (some ⟨wr.heap.size, 0, none⟩) 4 4, x20, x5, by kernel_rfl, ⟨Hb.b, Hb.f0, Hb.f1, Hb.f2, fun _ => ⟨wr.heap.size, rfl, lt0, Blk.new wr _ _⟩, fun e => absurd e hA, Hb.f5, fun e => absurd e hS⟩⟩
    · have hS : L 6 ≠ true := fun e => by have := hcl 6 4 (by kernel_rfl) e; rw [hLj] at this; cases this
      obtain ⟨A0, k0, e0, _⟩ := own_form (H.f0 (hpre 0 (by kernel_rfl)))
      obtain ⟨b2, e2, _⟩ := H.f2 (hpre 2 (by kernel_rfl))
      obtain ⟨b3, e3, _⟩ := H.f3 (hpre 3 (by kernel_rfl))
      clear hcl hpre
      refine wpOp_at rfl rfl fun K hK => ?_
      subst e0; subst e2; subst e3
      go_simp
      exact hK _ _ ⟨_, x17, _, _, _, x5, by kernel_rfl, ⟨H.b, H.f0, H.f1, H.f2, H.f3, fun _ => rfl, H.f5, fun e => absurd e hS⟩⟩
    · have hS : L 6 ≠ true := fun e => by have := hcl 6 5 (by kernel_rfl) e; rw [hLj] at this; cases this
      clear hcl hpre
      refine wpOp_at rfl rfl fun K hK => ?_
      go_simp
      have Hb := H.below (bnew (bnil wr) (.cells #[.slice none 0 0, .slice none 0 0, .slice none 0 0] 27))
      exact hK _ _ ⟨x16, x17, x18, x19, x20, .pointer (some ⟨wr.heap.size, 0, none⟩), by kernel_rfl, ⟨Hb.b, Hb.f0, Hb.f1, Hb.f2, Hb.f3, Hb.f4, fun _ _ => ⟨wr.heap.size, rfl, lt0, Blk.new wr _ _⟩, fun e => absurd e hS⟩⟩
    · have eA := H.f4 (hpre 4 (by kernel_rfl))
      obtain ⟨X, eM, hX, hB⟩ := H.f5 (hpre 5 (by kernel_rfl)) hLj
      obtain ⟨A0, k0, e0, _⟩ := own_form (H.f0 (hcl 4 0 (by kernel_rfl) (hpre 4 (by kernel_rfl))))
      obtain ⟨b2, e2, _⟩ := H.f2 (hcl 4 2 (by kernel_rfl) (hpre 4 (by kernel_rfl)))
      obtain ⟨b3, e3, _⟩ := H.f3 (hcl 4 3 (by kernel_rfl) (hpre 4 (by kernel_rfl)))
      clear hcl hpre
      refine wpOp_at rfl rfl fun K hK => ?_
      subst eA; subst e0; subst e2; subst e3; subst eM
      have q0 := hB.cell 0; have q1 := hB.cell 1; have q2 := hB.cell 2
      have r0 := hB.frozen 0; have r1 := hB.frozen 1; have r2 := hB.frozen 2
      go_simp
      exact hK _ _ ⟨_, x17, _, _, _, _, by kernel_rfl, H.store hX hB (fun i hi => by simp [hi]) (by simp)⟩
  · intro L b wr hR hall
    obtain ⟨x16, x17, x18, x19, x20, x5, rfl, H⟩ := hR
    obtain ⟨X, rfl, hX, hB⟩ := H.f6 (hall 6 (by decide))
    obtain ⟨AW, cW, rfl, hcw, hcw2⟩ := own_form (H.f0 (hall 0 (by decide)))
    obtain ⟨Cb, rfl, hC, hCB⟩ := H.f2 (hall 2 (by decide))
    obtain ⟨T, rfl, hT, hTB⟩ := H.f3 (hall 3 (by decide))
    have BW := hid (bgo B0.out H.b)
    have HWO := hid (own_lower (H.f0 (hall 0 (by decide))) B00)
    have MM := hid (MN.start (B := w.heap.size) (w := wr) (nc := 1) (nt := 4) (cv := (fun i => [x17].getD i undef)) (ks := (fun i => [consCode].getD i [])) (v := fun _ => undef) (Nat.le_trans B00 hC) (Nat.le_trans B00 hT) hCB hTB (fun i hi => (by obtain rfl : i = 0 := (by omega); exact own_lower (H.f1 (hall 1 (by decide))) B00)))
    have HB := hid hB
    have hX' := Nat.le_trans B00 hX
    have ltX := hB.lt
    clear hB hCB hTB hC hT hX H hall hcw hcw2
    have MM := hid (show MN w.heap.size wr 1 4 Cb T (fun i => [x17].getD i undef) (fun i => [consCode].getD i []) (fun _ => .slice none 0 0) (consThs cs 0) (fun _ => []) from MM.out)
    go_wp2
    go_loopw [6] (fun v wx => ∃ (k : Nat) (tv : Nat → Value) (av : Nat → List SV), k ≤ 12 ∧ v = .int .i64 k ∧ Hid (Blk wx X 27 #[.slice AW 1 cW, .slice (some ⟨Cb, 0, none⟩) 1 1, .slice (some ⟨T, 0, none⟩) 4 4]) ∧
      Hid (wx.ownsRow w.heap.size 3 1 (.slice AW 1 cW) 1 ([(-1 : Int)].flatMap gI)) ∧ Hid (MN w.heap.size wx 1 4 Cb T (fun i => [x17].getD i undef) (fun i => [consCode].getD i []) tv (consThs cs k) av) ∧ Hid (Below w.heap.size w wx)) (fun v _ => 12 - (intOf v).toNat)
    case atStart => exact ⟨0, _, _, Nat.zero_le _, rfl, HB, HWO, MM, BW⟩
    case round =>
      clear MM HB HWO BW
      obtain ⟨k, tv, av, hk12, rfl, HX, WX, MX, BX⟩ := hrel
      by_cases h1 : k < 12
      · have i1 : (k : Int) < 12 := by omega
        obtain ⟨V, hV⟩ : ∃ V, cval cs k = V := ⟨_, rfl⟩
        have HV := hid hV
        obtain ⟨j, hj⟩ : ∃ j, k % 4 = j := ⟨_, rfl⟩
        have hj4 : j < 4 := by omega
        have ij4 : (j : Int) < 4 := by omega
        have em : (k : Int).tmod 4 = (j : Int) := by rw [Int.tmod_eq_emod_of_nonneg (by omega)]; omega
        have em2 : (k : Int) % 4 = (j : Int) := by omega
        have iw : IntKind.i64.wrap (j : Int) = (j : Int) := IntWalk.i64_in _ (by omega)
        have c2 : wr.cell? ⟨X, 2, none⟩ = some (.slice (some ⟨T, 0, none⟩) 4 4) := HX.out.cell 2
        have c3 : wr.cell? ⟨T, j, none⟩ = some (tv j) := by rw [MX.out.tb.cell j]; exact arrN_at tv hj4
        have f3 : wr.frozen? ⟨T, j, none⟩ = false := MX.out.tb.frozen j
        have hrow := MX.out.rows j hj4
        obtain ⟨L, hL⟩ : ∃ L, (consThs cs k j).length = L := ⟨_, rfl⟩
        have hL12 : L ≤ 12 := by have := consThs_len cs k j; omega
        obtain ⟨Aj, cj, hAj, hcj1, hcj2⟩ := own_form hrow.2.1
        rw [hL] at hAj hcj1
        rw [hAj] at c3
        have HAJ := hid hAj
        have HROW := hid hrow
        have HLL := hid hL
        have HJ := hid hj
        clear hAj hrow hL hj hV
        have ltT := World.block_lt_of_cell? wr _ c3
        have ltX := World.block_lt_of_cell? wr _ c2
        obtain ⟨y, hy⟩ : ∃ y, (consThs cs k j).zip (av j) ++ [((⟨0, [(V : Int)]⟩ : VCall), (⟨some ⟨wr.heap.size, 0, none⟩, 1, 1⟩ : SV))] = y := ⟨_, rfl⟩
        have HYE := hid hy
        have HYL := hid (show y.length = L + 1 by rw [← hy, List.length_append, List.length_zip, HROW.out.1, HLL.out]; simp)
        clear hy
        have HBS := hid BX.out.size
        have HOW := hid (show ∀ w', Below wr.heap.size wr w' → w'.ownsRow w.heap.size 46 2 (.slice Aj L cj) ((consThs cs k j).zip (av j)).length (((consThs cs k j).zip (av j)).flatMap gS) from fun w' hb => by
          have h1 := own_below HROW.out.2.1 hb
          rw [HAJ.out] at h1
          rw [List.length_zip, HROW.out.1, Nat.min_self]
          exact h1)
        have HGW := hid (show ∀ wA w6, Below wr.heap.size wr wA → wA.grownBy w6 (Value.slice Aj L cj).ownBlock → (w6.cell? ⟨X, 2, none⟩ = some (.slice (some ⟨T, 0, none⟩) 4 4) ∧ w6.frozen? ⟨T, j, none⟩ = false) ∧ w6.cell? ⟨T, j, none⟩ = some (.slice Aj L cj) ∧
          ∀ v, ((w6.setCell ⟨T, j, none⟩ v).cell? ⟨X, 2, none⟩ = some (.slice (some ⟨T, 0, none⟩) 4 4) ∧ (w6.setCell ⟨T, j, none⟩ v).frozen? ⟨T, j, none⟩ = false) from fun wA w6 hb hG => by
          rw [← HAJ.out] at hG
          obtain ⟨g1, g2⟩ := MX.out.grown hj4 hb hG
          have gX := g2 (by decide) HX.out
          exact ⟨⟨gX.cell 2, g1.frozen j⟩, by rw [g1.cell j, arrN_at tv hj4, HAJ.out], fun v => ⟨(gX.far (p := ⟨T, j, none⟩) (gX.ne_ g1 (by decide)) v).cell 2, (g1.set_ j v).frozen j⟩⟩)
        have HFR := hid (show ∀ (k' : Nat) (c : VCall) (a : SV), ([⟨0, [(V : Int)]⟩] : List VCall)[k']? = some c → ([⟨some ⟨wr.heap.size, 0, none⟩, 1, 1⟩] : List SV)[k']? = some a → ((wr.alloc (.cells #[.int .i64 (V : Int)] 3)).alloc (.cells #[.int .i64 0, .slice (some ⟨wr.heap.size, 0, none⟩) 1 1] 46)).drew.ownsRow w.heap.size 3 1 a.v c.args.length (c.args.flatMap gI) from fun k' c a hc ha => by
          rw [List.getElem?_singleton] at hc ha
          split at hc
          · rename_i h; rw [if_pos h] at ha
            injection hc with hc; injection ha with ha
            subst hc ha
            exact own_below (own_fresh wr #[.int .i64 (V : Int)] 3 1 1 _ _ rfl HBS.out rfl (by simp [maxLen])) (bnew (bnil _) _).drew
          · cases hc)
        have hcase : (k < r ∧ ∃ ad x, D = some ad ∧ wr.cell? (ad.add k) = some (.int .i64 x) ∧ pk x 1099511627776 = V ∧ -9223372036854775808 ≤ x ∧ x ≤ 9223372036854775807) ∨ (¬ k < r ∧ V = 3) := by
          by_cases h2 : k < r
          · obtain ⟨ad, x, e, hx, cx⟩ := HDD.out.ati h2
            have := HCS.out x (List.mem_of_getElem? hx)
            refine .inl ⟨h2, ad, x, e, cell_below BX.out cx, ?_, this.1, this.2⟩
            rw [← HV.out]; unfold cval; rw [hx]
          · refine .inr ⟨h2, ?_⟩
            rw [← HV.out]; unfold cval
            rw [List.getElem?_eq_none (by rw [HRL.out]; omega)]
        rcases hcase with ⟨h2, ad, x, rfl, cx, hpx, hx0, hx1⟩ | ⟨h2, rfl⟩
        all_goals
          first
            | (have i2 : (k : Int) < (r : Int) := by omega
               have HPX := hid hpx
               clear hpx
               go_upto_region 8 with (go_at_call 22; refine (picked _ _ _ (by omega) (by omega) (by omega) (by omega)).mono ?_; rintro e w' ⟨rfl, rfl⟩; rw [HPX.out])
               have HXA := hid hx0
               clear cx)
            | (have i2 : ¬ (k : Int) < (r : Int) := by omega
               go_upto_region 8 with fail)
          refine wp_region_held_drew (S := (fun w' => w'.cell? ⟨X, 2, none⟩ = some (.slice (some ⟨T, 0, none⟩) 4 4) ∧ w'.frozen? ⟨T, j, none⟩ = false)) (by kernel_rfl) ?_ (fun hHeld => ?_)
          · (try dsimp only); (first | assumption | exact ⟨c2, f3⟩ | exact HZ.1 | exact HZ.2.2 _ | (refine sees2f ?_ c2 c3 f3; (repeat (first | exact bnil _ | refine Below.drew ?_ | refine bnew ?_ _))))
          refine wpAnyH_take (i := 0) (oi := ⟨some 34, _, _, _, _, _⟩) (v := ?_) rfl (by kernel_rfl) (by kernel_rfl) (by kernel_rfl) (fun _ _ _ h => h) (Or.inl ⟨by rfl, ?_⟩) (by assumption) ?_
          rotate_left
          · intro w hSw; (try dsimp only at hSw); go_simp <;> with_reducible rfl
          try simp only [Act.put, List.setIfInBounds_toArray, List.set_cons_zero, List.set_cons_succ]
          refine wpAnyH_take (i := 1) (oi := ⟨some 35, _, _, _, _, _⟩) (v := ?_) rfl (by kernel_rfl) (by kernel_rfl) (by kernel_rfl) (fun _ _ _ h => h) (Or.inl ⟨by rfl, ?_⟩) (by assumption) ?_
          rotate_left
          · intro w hSw; (try dsimp only at hSw); go_simp <;> with_reducible rfl
          try simp only [Act.put, List.setIfInBounds_toArray, List.set_cons_zero, List.set_cons_succ]
          refine wpAnyH_take (i := 2) (oi := ⟨some 36, _, _, _, _, _⟩) (v := ?_) rfl (by kernel_rfl) (by kernel_rfl) (by kernel_rfl) (fun _ _ _ h => h) (Or.inl ⟨by rfl, ?_⟩) (by assumption) ?_
          rotate_left
          · intro w hSw; (try dsimp only at hSw); go_simp <;> with_reducible rfl
          try simp only [Act.put, List.setIfInBounds_toArray, List.set_cons_zero, List.set_cons_succ]
          refine wpAnyH_take (i := 3) (oi := ⟨some 37, _, _, _, _, _⟩) (v := ?_) rfl (by kernel_rfl) (by kernel_rfl) (by kernel_rfl) (fun _ _ _ h => h) (Or.inl ⟨by rfl, ?_⟩) (by assumption) ?_
          rotate_left
          · intro w hSw; (try dsimp only at hSw); go_simp <;> with_reducible rfl
          try simp only [Act.put, List.setIfInBounds_toArray, List.set_cons_zero, List.set_cons_succ]
          refine wpAnyH_take (i := 4) (oi := ⟨some 38, _, _, _, _, _⟩) (v := ?_) rfl (by kernel_rfl) (by kernel_rfl) (by kernel_rfl) (fun _ _ _ h => h) (Or.inl ⟨by rfl, ?_⟩) (by assumption) ?_
          rotate_left
          · intro w hSw; (try dsimp only at hSw); go_simp <;> with_reducible rfl
          try simp only [Act.put, List.setIfInBounds_toArray, List.set_cons_zero, List.set_cons_succ]
          refine wpAnyH_take (i := 5) (oi := ⟨some 39, _, _, _, _, _⟩) (v := ?_) rfl (by kernel_rfl) (by kernel_rfl) (by kernel_rfl) (fun _ _ _ h => h) (Or.inl ⟨by rfl, ?_⟩) (by assumption) ?_
          rotate_left
          · intro w hSw; (try dsimp only at hSw); go_simp <;> with_reducible rfl
          try simp only [Act.put, List.setIfInBounds_toArray, List.set_cons_zero, List.set_cons_succ]
          refine wpAnyH_take (i := 6) (oi := ⟨some 40, _, _, _, _, _⟩) (v := ?_) rfl (by kernel_rfl) (by kernel_rfl) (by kernel_rfl) (fun _ _ _ h => h) (Or.inl ⟨by rfl, ?_⟩) (by assumption) ?_
          rotate_left
          · intro w hSw; (try dsimp only at hSw); go_simp <;> with_reducible rfl
          try simp only [Act.put, List.setIfInBounds_toArray, List.set_cons_zero, List.set_cons_succ]
          refine wpAnyH_take (i := 7) (oi := ⟨some 41, _, _, _, _, _⟩) (v := ?_) rfl (by kernel_rfl) (by kernel_rfl) (by kernel_rfl) (fun _ _ _ h => h) (Or.inl ⟨by rfl, ?_⟩) (by assumption) ?_
          rotate_left
          · intro w hSw; (try dsimp only at hSw); go_simp <;> with_reducible rfl
          try simp only [Act.put, List.setIfInBounds_toArray, List.set_cons_zero, List.set_cons_succ]
          refine wpAnyH_take (i := 8) (oi := ⟨some 42, _, _, _, _, _⟩) (v := ?_) rfl (by kernel_rfl) (by kernel_rfl) (by kernel_rfl) (fun _ _ _ h => h) (Or.inl ⟨by rfl, ?_⟩) (by assumption) ?_
          rotate_left
          · intro w hSw; (try dsimp only at hSw); go_simp <;> with_reducible rfl
          try simp only [Act.put, List.setIfInBounds_toArray, List.set_cons_zero, List.set_cons_succ]
          refine wpAnyH_take (i := 10) (oi := ⟨some 44, _, _, _, _, _⟩) (v := ?_) rfl (by kernel_rfl) (by kernel_rfl) (by kernel_rfl) (fun _ _ _ h => h) (Or.inl ⟨by rfl, ?_⟩) (by assumption) ?_
          rotate_left
          · intro w hSw; (try dsimp only at hSw); go_simp <;> with_reducible rfl
          try simp only [Act.put, List.setIfInBounds_toArray, List.set_cons_zero, List.set_cons_succ]
          refine wpAnyH_ready (rs := [9, 11]) (by kernel_rfl) (by simp) ?_
          refine AllReadyH.cons (o := ⟨some 43, _, _, _, _, _⟩) rfl (fun K hK => ?_) ?_
          go_simp
          refine hK.out _ _ ?_ (fun hHeld => ?_)
          · (try dsimp only); (first | assumption | exact ⟨c2, f3⟩ | exact HZ.1 | exact HZ.2.2 _ | (refine sees2f ?_ c2 c3 f3; (repeat (first | exact bnil _ | refine Below.drew ?_ | refine bnew ?_ _))))
          clear hK K
          try simp only [Act.put, List.setIfInBounds_toArray, List.set_cons_zero, List.set_cons_succ]
          refine wpAnyH_ready (rs := [11]) (by kernel_rfl) (by simp) ?_
          refine AllReadyH.cons (o := ⟨some 45, _, _, _, _, _⟩) rfl (fun K hK => ?_) AllReadyH.nil
          go_simp
          refine hK.out _ _ ?_ (fun hHeld => ?_)
          · (try dsimp only); (first | assumption | exact ⟨c2, f3⟩ | exact HZ.1 | exact HZ.2.2 _ | (refine sees2f ?_ c2 c3 f3; (repeat (first | exact bnil _ | refine Below.drew ?_ | refine bnew ?_ _))))
          clear hK K
          try simp only [Act.put, List.setIfInBounds_toArray, List.set_cons_zero, List.set_cons_succ]
          refine wpAnyH_take (i := 12) (oi := ⟨some 46, _, _, _, _, _⟩) (v := ?_) rfl (by kernel_rfl) (by kernel_rfl) (by kernel_rfl) (fun _ _ _ h => h) (Or.inl ⟨by rfl, ?_⟩) (by assumption) ?_
          rotate_left
          · intro w hSw; (try dsimp only at hSw); go_simp <;> with_reducible rfl
          try simp only [Act.put, List.setIfInBounds_toArray, List.set_cons_zero, List.set_cons_succ]
          refine wpAnyH_ready (rs := [13]) (by kernel_rfl) (by simp) ?_
          refine AllReadyH.cons (o := ⟨some 47, _, _, _, _, _⟩) rfl (fun K hK => ?_) AllReadyH.nil
          go_simp
          refine hK.out _ _ ?_ (fun hHeld => ?_)
          · (try dsimp only); (first | assumption | exact ⟨c2, f3⟩ | exact HZ.1 | exact HZ.2.2 _ | (refine sees2f ?_ c2 c3 f3; (repeat (first | exact bnil _ | refine Below.drew ?_ | refine bnew ?_ _))))
          clear hK K
          try simp only [Act.put, List.setIfInBounds_toArray, List.set_cons_zero, List.set_cons_succ]
          refine wpAnyH_ready (rs := [14]) (by kernel_rfl) (by simp) ?_
          refine AllReadyH.cons (o := ⟨some 48, _, _, _, _, _⟩) rfl (fun K hK => ?_) AllReadyH.nil
          (refine step_appC elmCN gS_one rfl (.tmp 43) (.tmp 47) rfl (.slice Aj L cj) ((consThs cs k j).zip (av j)) rfl (HOW.out _ (bnew (bnew (bnil _) _) _).drew) [((⟨0, [_]⟩ : VCall), (⟨some ⟨wr.heap.size, 0, none⟩, 1, 1⟩ : SV))] y HYE rfl (Sl.drew (Sl.fresh' _ #[_, _] 46 2 1 _ (by simp) rfl)) rfl (by rw [HYL.out]; simp only [maxLen]; omega) (by rw [HYL.out]; omega) (Nat.le_trans HBS.out (bnew (bnew (bnil _) _) _).drew.size) ?_; intro E6 c6 w6 hc6 hc7 HN6 HG6 HO6; have HZ := HGW.out _ w6 (bnew (bnew (bnil _) _) _).drew HG6.out)
          refine hK.out _ _ ?_ (fun hHeld => ?_)
          · (try dsimp only); (first | assumption | exact ⟨c2, f3⟩ | exact HZ.1 | exact HZ.2.2 _ | (refine sees2f ?_ c2 c3 f3; (repeat (first | exact bnil _ | refine Below.drew ?_ | refine bnew ?_ _))))
          clear hK K
          try simp only [Act.put, List.setIfInBounds_toArray, List.set_cons_zero, List.set_cons_succ]
          refine wpAnyH_take (i := 15) (oi := ⟨some 49, _, _, _, _, _⟩) (v := ?_) rfl (by kernel_rfl) (by kernel_rfl) (by kernel_rfl) (fun _ _ _ h => h) (Or.inl ⟨by rfl, ?_⟩) (by assumption) ?_
          rotate_left
          · intro w hSw; (try dsimp only at hSw); go_simp <;> with_reducible rfl
          try simp only [Act.put, List.setIfInBounds_toArray, List.set_cons_zero, List.set_cons_succ]
          refine wpAnyH_ready (rs := [16]) (by kernel_rfl) (by simp) ?_
          refine AllReadyH.cons (o := ⟨none, _, _, _, _, _⟩) rfl (fun K hK => ?_) AllReadyH.nil
          go_simp
          refine hK.out _ _ ?_ (fun hHeld => ?_)
          · (try dsimp only); (first | assumption | exact ⟨c2, f3⟩ | exact HZ.1 | exact HZ.2.2 _ | (refine sees2f ?_ c2 c3 f3; (repeat (first | exact bnil _ | refine Below.drew ?_ | refine bnew ?_ _))))
          clear hK K
          try dsimp only [Act.put]
          refine wpAnyH_done (by kernel_rfl) ?_ _
          rotate_left
          refine AllReadyH.cons (o := ⟨some 45, _, _, _, _, _⟩) rfl (fun K hK => ?_) AllReadyH.nil
          go_simp
          refine hK.out _ _ ?_ (fun hHeld => ?_)
          · (try dsimp only); (first | assumption | exact ⟨c2, f3⟩ | exact HZ.1 | exact HZ.2.2 _ | (refine sees2f ?_ c2 c3 f3; (repeat (first | exact bnil _ | refine Below.drew ?_ | refine bnew ?_ _))))
          clear hK K
          try simp only [Act.put, List.setIfInBounds_toArray, List.set_cons_zero, List.set_cons_succ]
          refine wpAnyH_take (i := 12) (oi := ⟨some 46, _, _, _, _, _⟩) (v := ?_) rfl (by kernel_rfl) (by kernel_rfl) (by kernel_rfl) (fun _ _ _ h => h) (Or.inl ⟨by rfl, ?_⟩) (by assumption) ?_
          rotate_left
          · intro w hSw; (try dsimp only at hSw); go_simp <;> with_reducible rfl
          try simp only [Act.put, List.setIfInBounds_toArray, List.set_cons_zero, List.set_cons_succ]
          refine wpAnyH_ready (rs := [9, 13]) (by kernel_rfl) (by simp) ?_
          refine AllReadyH.cons (o := ⟨some 43, _, _, _, _, _⟩) rfl (fun K hK => ?_) ?_
          go_simp
          refine hK.out _ _ ?_ (fun hHeld => ?_)
          · (try dsimp only); (first | assumption | exact ⟨c2, f3⟩ | exact HZ.1 | exact HZ.2.2 _ | (refine sees2f ?_ c2 c3 f3; (repeat (first | exact bnil _ | refine Below.drew ?_ | refine bnew ?_ _))))
          clear hK K
          try simp only [Act.put, List.setIfInBounds_toArray, List.set_cons_zero, List.set_cons_succ]
          refine wpAnyH_ready (rs := [13]) (by kernel_rfl) (by simp) ?_
          refine AllReadyH.cons (o := ⟨some 47, _, _, _, _, _⟩) rfl (fun K hK => ?_) AllReadyH.nil
          go_simp
          refine hK.out _ _ ?_ (fun hHeld => ?_)
          · (try dsimp only); (first | assumption | exact ⟨c2, f3⟩ | exact HZ.1 | exact HZ.2.2 _ | (refine sees2f ?_ c2 c3 f3; (repeat (first | exact bnil _ | refine Below.drew ?_ | refine bnew ?_ _))))
          clear hK K
          try simp only [Act.put, List.setIfInBounds_toArray, List.set_cons_zero, List.set_cons_succ]
          refine wpAnyH_ready (rs := [14]) (by kernel_rfl) (by simp) ?_
          refine AllReadyH.cons (o := ⟨some 48, _, _, _, _, _⟩) rfl (fun K hK => ?_) AllReadyH.nil
          (refine step_appC elmCN gS_one rfl (.tmp 43) (.tmp 47) rfl (.slice Aj L cj) ((consThs cs k j).zip (av j)) rfl (HOW.out _ (bnew (bnew (bnil _) _) _).drew) [((⟨0, [_]⟩ : VCall), (⟨some ⟨wr.heap.size, 0, none⟩, 1, 1⟩ : SV))] y HYE rfl (Sl.drew (Sl.fresh' _ #[_, _] 46 2 1 _ (by simp) rfl)) rfl (by rw [HYL.out]; simp only [maxLen]; omega) (by rw [HYL.out]; omega) (Nat.le_trans HBS.out (bnew (bnew (bnil _) _) _).drew.size) ?_; intro E6 c6 w6 hc6 hc7 HN6 HG6 HO6; have HZ := HGW.out _ w6 (bnew (bnew (bnil _) _) _).drew HG6.out)
          refine hK.out _ _ ?_ (fun hHeld => ?_)
          · (try dsimp only); (first | assumption | exact ⟨c2, f3⟩ | exact HZ.1 | exact HZ.2.2 _ | (refine sees2f ?_ c2 c3 f3; (repeat (first | exact bnil _ | refine Below.drew ?_ | refine bnew ?_ _))))
          clear hK K
          try simp only [Act.put, List.setIfInBounds_toArray, List.set_cons_zero, List.set_cons_succ]
          refine wpAnyH_take (i := 15) (oi := ⟨some 49, _, _, _, _, _⟩) (v := ?_) rfl (by kernel_rfl) (by kernel_rfl) (by kernel_rfl) (fun _ _ _ h => h) (Or.inl ⟨by rfl, ?_⟩) (by assumption) ?_
          rotate_left
          · intro w hSw; (try dsimp only at hSw); go_simp <;> with_reducible rfl
          try simp only [Act.put, List.setIfInBounds_toArray, List.set_cons_zero, List.set_cons_succ]
          refine wpAnyH_ready (rs := [16]) (by kernel_rfl) (by simp) ?_
          refine AllReadyH.cons (o := ⟨none, _, _, _, _, _⟩) rfl (fun K hK => ?_) AllReadyH.nil
          go_simp
          refine hK.out _ _ ?_ (fun hHeld => ?_)
          · (try dsimp only); (first | assumption | exact ⟨c2, f3⟩ | exact HZ.1 | exact HZ.2.2 _ | (refine sees2f ?_ c2 c3 f3; (repeat (first | exact bnil _ | refine Below.drew ?_ | refine bnew ?_ _))))
          clear hK K
          try dsimp only [Act.put]
          refine wpAnyH_done (by kernel_rfl) ?_ _
          rotate_left
          refine AllReadyH.cons (o := ⟨some 47, _, _, _, _, _⟩) rfl (fun K hK => ?_) AllReadyH.nil
          go_simp
          refine hK.out _ _ ?_ (fun hHeld => ?_)
          · (try dsimp only); (first | assumption | exact ⟨c2, f3⟩ | exact HZ.1 | exact HZ.2.2 _ | (refine sees2f ?_ c2 c3 f3; (repeat (first | exact bnil _ | refine Below.drew ?_ | refine bnew ?_ _))))
          clear hK K
          try simp only [Act.put, List.setIfInBounds_toArray, List.set_cons_zero, List.set_cons_succ]
          refine wpAnyH_ready (rs := [9]) (by kernel_rfl) (by simp) ?_
          refine AllReadyH.cons (o := ⟨some 43, _, _, _, _, _⟩) rfl (fun K hK => ?_) AllReadyH.nil
          go_simp
          refine hK.out _ _ ?_ (fun hHeld => ?_)
          · (try dsimp only); (first | assumption | exact ⟨c2, f3⟩ | exact HZ.1 | exact HZ.2.2 _ | (refine sees2f ?_ c2 c3 f3; (repeat (first | exact bnil _ | refine Below.drew ?_ | refine bnew ?_ _))))
          clear hK K
          try simp only [Act.put, List.setIfInBounds_toArray, List.set_cons_zero, List.set_cons_succ]
          refine wpAnyH_ready (rs := [14]) (by kernel_rfl) (by simp) ?_
          refine AllReadyH.cons (o := ⟨some 48, _, _, _, _, _⟩) rfl (fun K hK => ?_) AllReadyH.nil
          (refine step_appC elmCN gS_one rfl (.tmp 43) (.tmp 47) rfl (.slice Aj L cj) ((consThs cs k j).zip (av j)) rfl (HOW.out _ (bnew (bnew (bnil _) _) _).drew) [((⟨0, [_]⟩ : VCall), (⟨some ⟨wr.heap.size, 0, none⟩, 1, 1⟩ : SV))] y HYE rfl (Sl.drew (Sl.fresh' _ #[_, _] 46 2 1 _ (by simp) rfl)) rfl (by rw [HYL.out]; simp only [maxLen]; omega) (by rw [HYL.out]; omega) (Nat.le_trans HBS.out (bnew (bnew (bnil _) _) _).drew.size) ?_; intro E6 c6 w6 hc6 hc7 HN6 HG6 HO6; have HZ := HGW.out _ w6 (bnew (bnew (bnil _) _) _).drew HG6.out)
          refine hK.out _ _ ?_ (fun hHeld => ?_)
          · (try dsimp only); (first | assumption | exact ⟨c2, f3⟩ | exact HZ.1 | exact HZ.2.2 _ | (refine sees2f ?_ c2 c3 f3; (repeat (first | exact bnil _ | refine Below.drew ?_ | refine bnew ?_ _))))
          clear hK K
          try simp only [Act.put, List.setIfInBounds_toArray, List.set_cons_zero, List.set_cons_succ]
          refine wpAnyH_take (i := 15) (oi := ⟨some 49, _, _, _, _, _⟩) (v := ?_) rfl (by kernel_rfl) (by kernel_rfl) (by kernel_rfl) (fun _ _ _ h => h) (Or.inl ⟨by rfl, ?_⟩) (by assumption) ?_
          rotate_left
          · intro w hSw; (try dsimp only at hSw); go_simp <;> with_reducible rfl
          try simp only [Act.put, List.setIfInBounds_toArray, List.set_cons_zero, List.set_cons_succ]
          refine wpAnyH_ready (rs := [16]) (by kernel_rfl) (by simp) ?_
          refine AllReadyH.cons (o := ⟨none, _, _, _, _, _⟩) rfl (fun K hK => ?_) AllReadyH.nil
          go_simp
          refine hK.out _ _ ?_ (fun hHeld => ?_)
          · (try dsimp only); (first | assumption | exact ⟨c2, f3⟩ | exact HZ.1 | exact HZ.2.2 _ | (refine sees2f ?_ c2 c3 f3; (repeat (first | exact bnil _ | refine Below.drew ?_ | refine bnew ?_ _))))
          clear hK K
          try dsimp only [Act.put]
          refine wpAnyH_done (by kernel_rfl) ?_ _
          rotate_left
          all_goals
            obtain ⟨g1, g2⟩ := MX.out.grown hj4 (bnew (bnew (bnil _) _) _).drew (by rw [HAJ.out]; exact HG6.out)
            have HX6 := hid ((g2 (by decide) HX.out).far (p := ⟨T, j, none⟩) ((g2 (by decide) HX.out).ne_ g1 (by decide)) (.slice E6 y.length c6))
            have HB6 := hid (MX.out.chg hj4 (bnew (bnew (bnil _) _) _).drew (by rw [HAJ.out]; exact HG6.out) BX.out rfl (.slice E6 y.length c6)).2
            have HW6 := hid (MX.out.other hj4 (bnew (bnew (bnil _) _) _).drew (by rw [HAJ.out]; exact HG6.out) WX.out (by decide) (by decide) (.slice E6 y.length c6))
            have HM6 := hid (MX.out.snoc hj4 [⟨0, [_]⟩] [⟨some ⟨wr.heap.size, 0, none⟩, 1, 1⟩] (bnew (bnew (bnil _) _) _).drew rfl HFR.out HYE.out (by rw [HAJ.out]; exact HG6.out) (by rw [HAJ.out]; exact HO6.out) HN6.out)
            clear g1 g2 HZ HG6 HO6 HN6
            go_wp2
            go_roundw
            case rel => exact ⟨k + 1, _, _, by omega, by go_num, HX6, HW6, hid (by have h1 := HM6.out; rw [← HV.out, consThs_upd cs HJ.out] at h1; exact h1), HB6⟩
            case measure => simp [intOf]; omega
      · obtain rfl : k = 12 := by omega
        have i1 : ¬ (((12 : Nat) : Int)) < 12 := by omega
        have HMA := hid (consO_at MX.out)
        have HCO := hid (consO_code MX.out)
        have B1 := BX
        have HRW := hid (show ∀ t', t' < 4 → CRow w.heap.size wr (tv t') (consThs cs 12 t') (av t') from MX.out.rows)
        have HTB := hid MX.out.tb
        go_wp2_with fail
        refine (schedule_n S p q 4 700 bs wr hpl (by decide) (by decide) (by decide) (HS.out.below B1.out)).mono ?_
        rintro e w2 ⟨v, rfl, ho⟩
        have hl4 : (schedN bs 4 700).length ≤ 700 := by rw [schedN_len]; omega
        have HLT := hid (schedN_lt bs (N := 4) (by decide) 700)
        generalize schedN bs 4 700 = all at *
        obtain ⟨Al, cl, rfl, hcl, hcl2⟩ := ho.form
        have HO := hid ho; clear ho
        rw [show (nats all).length = all.length by simp] at *
        unfold maxLen at hcl2
        obtain ⟨N, hN⟩ : ∃ N, all.length = N := ⟨_, rfl⟩
        rw [hN] at HO hl4 hcl ⊢
        have HN := hid hN; clear hN
        have x0 : w2.cell? ⟨X, 0, none⟩ = some (.slice AW 1 cW) := (HX.out.below' HO.out.below).cell 0
        have x1 : w2.cell? ⟨X, 1, none⟩ = some (.slice (some ⟨Cb, 0, none⟩) 1 1) := (HX.out.below' HO.out.below).cell 1
        have x2 : w2.cell? ⟨X, 2, none⟩ = some (.slice (some ⟨T, 0, none⟩) 4 4) := (HX.out.below' HO.out.below).cell 2
        have HXB := hid (HX.out.below' HO.out.below)
        have HWB := hid (own_below WX.out HO.out.below)
        have HMB := hid (HMA.out.below HO.out.below)
        have B2 := hid (bgo B1.out HO.out.below)
        have HT2 := hid (HT.out.below B2.out)
        have HSL := hid (show Sl w2 1 Al N (ints (all.map fun x : Nat => (x : Int))) from HO.out.sl)
        have HO2 := hid HO.out.below
        clear HO
        go_wp2_with fail
        refine (ran_of AW (some ⟨Cb, 0, none⟩) (some ⟨T, 0, none⟩) Al 1 cW 1 1 4 4 N cl (consMO cs) all w2 (by decide) (by decide) (by decide) (by omega) hcl HT2.out HMB.out (Sl.own HWB.out) HSL.out HLT.out (cons_play (consMO_ok cs) all).2 (play_fin _ all)).mono ?_
        rintro e w3 hp3
        obtain ⟨v3, rs, rfl, hrow, hrs, htold, b3⟩ := hp3
        obtain ⟨A3, c3, rfl, hc3, hc3'⟩ := own_form hrow
        obtain ⟨yv, hres⟩ := cons_res (consMO_ok cs) all
        have HR := hid hres
        rw [← hrs] at HR
        clear hres
        obtain ⟨LD, hLD⟩ : ∃ LD, rs.length = LD := ⟨_, rfl⟩
        rw [hLD] at hrow hc3 ⊢
        have HD := hid (DsAt.mk hLD hrow htold)
        have B3 := hid b3
        clear hrow htold hrs b3 hLD
        have HX3 := hid (HXB.out.below' B3.out)
        have HT3 := hid (HT2.out.below B3.out)
        have HSL3 := hid (HSL.out.below B3.out)
        have HM3 := hid (HMB.out.below B3.out)
        have B23 := hid (bgo HO2.out B3.out)
        obtain ⟨Ac, cc, hAc⟩ := HCO.out
        have hAc : w3.cell? ⟨Cb, 0, none⟩ = some (.slice Ac 4 cc) := cell_below B23.out hAc
        have y0 : w3.cell? ⟨X, 0, none⟩ = some (.slice AW 1 cW) := HX3.out.cell 0
        have y1 : w3.cell? ⟨X, 1, none⟩ = some (.slice (some ⟨Cb, 0, none⟩) 1 1) := HX3.out.cell 1
        have y2 : w3.cell? ⟨X, 2, none⟩ = some (.slice (some ⟨T, 0, none⟩) 4 4) := HX3.out.cell 2
        clear x0 x1 x2 HXB HMB HWB HT2 HSL
        go_wp2_with fail
        refine (run_may AW (some ⟨Cb, 0, none⟩) (some ⟨T, 0, none⟩) 1 cW 1 1 4 4 (consMO cs) w3 (by decide) (by decide) (by decide) HT3.out HM3.out).mono ?_
        rintro e w4 ⟨rfl, b4⟩
        have y1 : w4.cell? ⟨X, 1, none⟩ = some (.slice (some ⟨Cb, 0, none⟩) 1 1) := cell_below b4 y1
        have hAc : w4.cell? ⟨Cb, 0, none⟩ = some (.slice Ac 4 cc) := cell_below b4 hAc
        have HD4 := hid (HD.out.below b4)
        have HSL4 := hid (HSL3.out.below b4)
        have HX4 := hid (HX3.out.below' b4)
        have B14 := hid (bgo B23.out b4)
        have B04 := hid (bgo B1.out B14.out)
        have HTB4 := hid (HTB.out.below' B14.out)
        clear b4 y0 y2 HX3 HM3 HT3 HSL3 HD B23 HTB
        unfold maxLen at hc3'
        go_wp2_with fail
        clear y1 hAc
        go_loopw [11, 12] (fun f i wz => ∃ (k : Nat) (fi : Int), k ≤ LD ∧ i = .int .i64 k ∧ f = .int .i64 fi ∧ Hid (FirstAt (rs.map (·.1)) k fi) ∧ Hid (Below w4.heap.size w4 wz)) (fun _ i _ => LD - (intOf i).toNat)
        case atStart => exact ⟨0, -1, Nat.zero_le _, rfl, rfl, hid (.inl rfl), hid (bnil _)⟩
        case round =>
          obtain ⟨k, fi, hk, rfl, rfl, HF, BR⟩ := hrel
          by_cases hlt : k < LD
          · have j1 : (k : Int) < (LD : Int) := by omega
            obtain ⟨b9, d, At, ct, rfl, hd, lt9, u0, u1, u2, u3, u4, ut⟩ := (HD4.out.below BR.out).at_ hlt
            have HDk := hid hd
            have HUT := hid ut
            have hsp := HR.out.spent k d hd
            obtain ⟨htb, hte⟩ := HR.out.time k d hd
            have hsp : spentOf d all ≤ 4 := Nat.le_trans (Nat.le_of_eq (spent_cnt d all (fun e he => (hte e he).2))) hsp
            rw [HN.out] at htb hte
            have HTE := hid hte
            clear hd ut hte
            go_wp2_with fail
            refine (spent_of d ⟨At, d.told.length, ct⟩ Al N cl all _ (by omega) htb HTE.out (HSL4.out.below BR.out)).mono ?_
            rintro e w5 ⟨rfl, b5⟩
            have BN := hid b5
            have BR5 := hid (bgo BR.out b5)
            obtain ⟨sp, hsp'⟩ : ∃ sp, spentOf d all = sp := ⟨_, rfl⟩
            rw [hsp'] at hsp ⊢
            clear hsp'
            have g60 : ¬ ((60 : Int) < (sp : Int)) := by omega
            have u1 : w5.cell? ⟨b9, k * 5 + 1, none⟩ = some (.int .i64 (eI d.e)) := cell_below b5 u1
            have u4 : w5.cell? ⟨b9, k * 5 + 4, none⟩ = some (.slice At d.told.length ct) := cell_below b5 u4
            clear b5 u0 u2 u3
            cases he : d.e with
            | none =>
              rw [he] at u1
              simp only [eI] at u1
              go_wp2_with fail
              go_quiet (fail)
              go_wp2_with fail
              go_roundw
              case rel => exact ⟨k + 1, fi, by omega, by go_num, rfl, hid HF.out.up, hid (below_drewN BR5.out nq)⟩
              case measure => simp [intOf]; omega
            | some e =>
              rw [he] at u1
              simp only [eI] at u1
              obtain ⟨htd, hy0, _⟩ := HR.out.fin k d e HDk.out he
              obtain ⟨bt, rfl, hbt, t0⟩ := told_one HUT.out htd
              have t0 : w5.cell? ⟨bt, 0, none⟩ = some (.int .i64 yv) := cell_below BN.out t0
              rw [htd] at u4
              have u4 : w5.cell? ⟨b9, k * 5 + 4, none⟩ = some (.slice (some ⟨bt, 0, none⟩) 1 ct) := u4
              have HTD := hid htd; have HE := hid he
              clear htd he HUT
              have en : ¬ ((e : Int) = -1) := by omega
              have yn : ¬ (yv < 0) := by omega
              have en3 : ((e : Int) != -1) = true := bneT en
              have HNW := hid (show FirstAt (rs.map (·.1)) (k + 1) (k : Int) from .inr ⟨k, d, e, rfl, by omega, HDk.out, HE.out⟩)
              have hcase : fi = -1 ∨ ∃ (f ef : Nat), fi = (f : Int) ∧ f < LD ∧ w5.cell? ⟨b9, f * 5 + 1, none⟩ = some (.int .i64 (ef : Int)) := by
                rcases HF.out with h | ⟨f, df, ef, h1, h2, h3, h4⟩
                · exact .inl h
                · have hf : f < LD := by omega
                  obtain ⟨b10, d', At', ct', e1, hd', _, z0, z1, _⟩ := (HD4.out.below BR5.out).at_ hf
                  injection e1 with e1; injection e1 with e1 _ _
                  subst e1
                  have := h3.symm.trans hd'
                  injection this with this
                  subst this
                  rw [h4] at z1
                  exact .inr ⟨f, ef, h1, hf, z1⟩
              rcases hcase with rfl | ⟨f, ef, rfl, hf, z1⟩
              · go_wp2_with fail
                go_quiet (fail)
                go_wp2_with fail
                go_roundw
                case rel => exact ⟨k + 1, (k : Int), by omega, by go_num, rfl, HNW, hid (below_drewN BR5.out nq)⟩
                case measure => simp [intOf]; omega
              · have hfl : (f : Int) < (LD : Int) := by omega
                have fn : ¬ ((f : Int) = -1) := by omega
                have fn3 : ((f : Int) == -1) = false := beqF fn
                have HFU := hid HF.out.up
                go_wp2_with fail
                by_cases hef : e < ef
                · have i3 : (e : Int) < (ef : Int) := by omega
                  go_quiet (fail)
                  go_wp2_with fail
                  go_roundw
                  case rel => exact ⟨k + 1, (k : Int), by omega, by go_num, rfl, HNW, hid (below_drewN BR5.out nq)⟩
                  case measure => simp [intOf]; omega
                · have i3 : decide ((e : Int) < (ef : Int)) = false := by simp; omega
                  go_quiet (fail)
                  go_wp2_with fail
                  go_roundw
                  case rel => exact ⟨k + 1, (f : Int), by omega, by go_num, rfl, HFU, hid (below_drewN BR5.out nq)⟩
                  case measure => simp [intOf]; omega
          · obtain rfl : k = LD := by omega
            have j1 : ¬ (k : Int) < (k : Int) := by omega
            have hcase : fi = -1 ∨ ∃ (f ef bf cf : Nat) (df : Dg) (bo : Nat), A3 = some ⟨bo, 0, none⟩ ∧ fi = (f : Int) ∧ f < k ∧ (rs.map (·.1))[f]? = some df ∧ df.e = some ef ∧ wr.cell? ⟨bo, f * 5 + 1, none⟩ = some (.int .i64 (ef : Int)) ∧ wr.cell? ⟨bo, f * 5 + 4, none⟩ = some (.slice (some ⟨bf, 0, none⟩) 1 cf) ∧ wr.cell? ⟨bf, 0, none⟩ = some (.int .i64 yv) := by
              rcases HF.out with h | ⟨f, df, ef, h1, h2, h3, h4⟩
              · exact .inl h
              · obtain ⟨b10, d', At', ct', e1, hd', _, z0, z1, _, _, z4, zt⟩ := (HD4.out.below BR.out).at_ h2
                have := h3.symm.trans hd'
                injection this with this
                subst this
                rw [h4] at z1
                obtain ⟨htd, _⟩ := HR.out.fin f df ef h3 h4
                obtain ⟨bf, rfl, _, t0⟩ := told_one zt htd
                rw [htd] at z4
                exact .inr ⟨f, ef, bf, ct', df, b10, e1, h1, h2, h3, h4, z1, z4, t0⟩
            rcases hcase with rfl | ⟨f, ef, bf, cf, df, b9, rfl, rfl, hf, hdf, hef, zf1, zf4, zt0⟩
            · go_wp2_with fail
              go_ret
              exact ⟨rfl, bgo B04.out BR.out⟩
            · have fn : ¬ ((f : Int) = -1) := by omega
              have hfl : (f : Int) < (k : Int) := by omega
              have HDF := hid hdf; have HEF := hid hef
              have HD5 := hid (HD4.out.below BR.out)
              have HX5 := hid (HX4.out.below' BR.out)
              have HTB5 := hid (HTB4.out.below' BR.out)
              have B5 := hid (bgo B04.out BR.out)
              have HRW5 := hid (show ∀ t', t' < 4 → CRow w.heap.size wr (tv t') (consThs cs 12 t') (av t') from fun t' ht' => (HRW.out t' ht').below (bgo B14.out BR.out))
              clear hdf hef HF HSL4 HD4 HX4 HTB4 HRW BR B14 B04 BX B1 HMA HX WX MX HCO
              go_wp2_with fail
              go_loopw [13, 14] (fun p' i wz => ∃ (j : Nat) (pb : Bool), j ≤ k ∧ i = .int .i64 j ∧ p' = .bool pb ∧ Hid (PropIn (consMO cs) (rs.map (·.1)) yv ef j pb) ∧ Hid (Below wr.heap.size wr wz)) (fun _ i _ => k - (intOf i).toNat)
              case atStart => exact ⟨0, false, Nat.zero_le _, rfl, rfl, hid ⟨fun j' d' h => absurd h (by omega)⟩, hid (bnil _)⟩
              case round =>
                obtain ⟨j, pb, hj, rfl, rfl, HP, BZ⟩ := hrel
                by_cases hlt : j < k
                · have j1 : (j : Int) < (k : Int) := by omega
                  obtain ⟨b10, d, At, ct, hb10, hd, lt10, u0, u1, u2, u3, u4, ut⟩ := (HD5.out.below BZ.out).at_ hlt
                  injection hb10 with hb10; injection hb10 with hb10 _ _
                  subst hb10
                  have HDk := hid hd
                  have HUT := hid ut
                  obtain ⟨px, hpx⟩ := HR.out.pr j d hd
                  obtain ⟨ht4, hcl4, hcc⟩ := propMO hpx
                  have HPX := hid hpx
                  obtain ⟨br, cr, ba, ca, htv, r0, r1, r2⟩ := ((HRW5.out d.t ht4).below BZ.out).at_ hcc
                  have c2 : wr.cell? ⟨X, 2, none⟩ = some (.slice (some ⟨T, 0, none⟩) 4 4) := (HX5.out.below' BZ.out).cell 2
                  have c3 : wr.cell? ⟨T, d.t, none⟩ = some (tv d.t) := by rw [(HTB5.out.below' BZ.out).cell d.t]; exact arrN_at tv ht4
                  rw [htv] at c3
                  obtain ⟨NL, hNL⟩ : ∃ NL, (consThs cs 12 d.t).length = NL := ⟨_, rfl⟩
                  rw [hNL] at c3 hcl4
                  clear hpx hcc htv hNL hd ut
                  have it4 : (d.t : Int) < 4 := by omega
                  have icl : (d.c : Int) < (NL : Int) := by omega
                  have zf1 := cell_below BZ.out zf1
                  have zf4 := cell_below BZ.out zf4
                  have zt0 := cell_below BZ.out zt0
                  have e7 : (yv != yv) = false := by simp
                  have key : ∃ (eo : Int) (tl : Nat) (At2 : Option Addr), wr.cell? ⟨b9, j * 5 + 1, none⟩ = some (.int .i64 eo) ∧ wr.cell? ⟨b9, j * 5 + 4, none⟩ = some (.slice At2 tl ct) ∧ (eo = -1 ∨ ((eo != -1) = true ∧ tl = 1 ∧ ∃ bt, At2 = some ⟨bt, 0, none⟩ ∧ wr.cell? ⟨bt, 0, none⟩ = some (.int .i64 yv))) := by
                    refine ⟨_, _, _, u1, u4, ?_⟩
                    cases he : d.e with
                    | none => exact .inl rfl
                    | some e =>
                      obtain ⟨htd, _⟩ := HR.out.fin j d e HDk.out he
                      obtain ⟨bt, e1, _, t0⟩ := told_one HUT.out htd
                      exact .inr ⟨bneT (by simp only [eI]; omega), by rw [htd]; rfl, bt, e1, t0⟩
                  clear u1 u4
                  obtain ⟨eo, tl, At2, u1, u4, hkey⟩ := key
                  rcases hkey with rfl | ⟨heo, rfl, bt, rfl, t0⟩
                  all_goals
                    go_wp2_with fail
                    go_quiet (fail)
                    have B6 := hid (below_drewN (bnil wr) nq)
                    generalize World.drewN wr nq = w6 at *
                    have c2 := cell_below B6.out c2
                    have c3 := cell_below B6.out c3
                    have u0 := cell_below B6.out u0
                    have u2 := cell_below B6.out u2
                    have u3 := cell_below B6.out u3
                    have r0 := cell_below B6.out r0
                    have r1 := cell_below B6.out r1
                    have r2 := cell_below B6.out r2
                    have zf1 := cell_below B6.out zf1
                    have zf4 := cell_below B6.out zf4
                    have zt0 := cell_below B6.out zt0
                    have BZ6 := hid (bgo BZ.out B6.out)
                    obtain ⟨bc, hbc⟩ : ∃ bc, w6.heap.size = bc := ⟨_, rfl⟩
                    have HBC := hid hbc
                    have XC0 := hid (blkN w6 46 #[.int .i64 0, .slice (some ⟨ba, 0, none⟩) 1 ca] bc hbc)
                    clear hbc
                    go_upto_region 31 with fail
                    refine wp_region_held_drew (S := (fun w' => w'.cell? ⟨X, 2, none⟩ = some (.slice (some ⟨T, 0, none⟩) 4 4) ∧ w'.cell? ⟨b9, j * 5 + 2, none⟩ = some (.int .i64 (d.t : Int)) ∧ w'.cell? ⟨T, d.t, none⟩ = some (.slice (some ⟨br, 0, none⟩) NL cr) ∧ w'.cell? ⟨b9, j * 5 + 3, none⟩ = some (.int .i64 (d.c : Int)) ∧ w'.cell? ⟨br, d.c * 2, none⟩ = some (.int .i64 0) ∧ w'.cell? ⟨br, d.c * 2 + 1, none⟩ = some (.slice (some ⟨ba, 0, none⟩) 1 ca))) (by kernel_rfl) ?_ (fun hHeld => ?_)
                    · (try dsimp only); (first | assumption | exact ⟨c2, u2, c3, u3, r0, r1⟩ | (refine sees6 ?_ c2 u2 c3 u3 r0 r1; (repeat (first | exact bnil _ | refine Below.drew ?_ | refine bnew ?_ _))))
                    refine wpAnyH_take (i := 0) (oi := ⟨some 166, _, _, _, _, _⟩) (v := ?_) rfl (by kernel_rfl) (by kernel_rfl) (by kernel_rfl) (fun _ _ _ h => h) (Or.inl ⟨by rfl, ?_⟩) (by assumption) ?_
                    rotate_left
                    · intro w hSw; (try dsimp only at hSw); go_simp <;> with_reducible rfl
                    try simp only [Act.put, List.setIfInBounds_toArray, List.set_cons_zero, List.set_cons_succ]
                    refine wpAnyH_take (i := 1) (oi := ⟨some 167, _, _, _, _, _⟩) (v := ?_) rfl (by kernel_rfl) (by kernel_rfl) (by kernel_rfl) (fun _ _ _ h => h) (Or.inl ⟨by rfl, ?_⟩) (by assumption) ?_
                    rotate_left
                    · intro w hSw; (try dsimp only at hSw); go_simp <;> with_reducible rfl
                    try simp only [Act.put, List.setIfInBounds_toArray, List.set_cons_zero, List.set_cons_succ]
                    refine wpAnyH_take (i := 2) (oi := ⟨some 168, _, _, _, _, _⟩) (v := ?_) rfl (by kernel_rfl) (by kernel_rfl) (by kernel_rfl) (fun _ _ _ h => h) (Or.inl ⟨by rfl, ?_⟩) (by assumption) ?_
                    rotate_left
                    · intro w hSw; (try dsimp only at hSw); go_simp <;> with_reducible rfl
                    try simp only [Act.put, List.setIfInBounds_toArray, List.set_cons_zero, List.set_cons_succ]
                    refine wpAnyH_take (i := 3) (oi := ⟨some 169, _, _, _, _, _⟩) (v := ?_) rfl (by kernel_rfl) (by kernel_rfl) (by kernel_rfl) (fun _ _ _ h => h) (Or.inl ⟨by rfl, ?_⟩) (by assumption) ?_
                    rotate_left
                    · intro w hSw; (try dsimp only at hSw); go_simp <;> with_reducible rfl
                    try simp only [Act.put, List.setIfInBounds_toArray, List.set_cons_zero, List.set_cons_succ]
                    refine wpAnyH_take (i := 4) (oi := ⟨some 170, _, _, _, _, _⟩) (v := ?_) rfl (by kernel_rfl) (by kernel_rfl) (by kernel_rfl) (fun _ _ _ h => h) (Or.inl ⟨by rfl, ?_⟩) (by assumption) ?_
                    rotate_left
                    · intro w hSw; (try dsimp only at hSw); go_simp <;> with_reducible rfl
                    try simp only [Act.put, List.setIfInBounds_toArray, List.set_cons_zero, List.set_cons_succ]
                    refine wpAnyH_take (i := 5) (oi := ⟨some 171, _, _, _, _, _⟩) (v := ?_) rfl (by kernel_rfl) (by kernel_rfl) (by kernel_rfl) (fun _ _ _ h => h) (Or.inl ⟨by rfl, ?_⟩) (by assumption) ?_
                    rotate_left
                    · intro w hSw; (try dsimp only at hSw); go_simp <;> with_reducible rfl
                    try simp only [Act.put, List.setIfInBounds_toArray, List.set_cons_zero, List.set_cons_succ]
                    refine wpAnyH_take (i := 6) (oi := ⟨some 172, _, _, _, _, _⟩) (v := ?_) rfl (by kernel_rfl) (by kernel_rfl) (by kernel_rfl) (fun _ _ _ h => h) (Or.inl ⟨by rfl, ?_⟩) (by assumption) ?_
                    rotate_left
                    · intro w hSw; (try dsimp only at hSw); go_simp <;> with_reducible rfl
                    try simp only [Act.put, List.setIfInBounds_toArray, List.set_cons_zero, List.set_cons_succ]
                    refine wpAnyH_take (i := 7) (oi := ⟨some 173, _, _, _, _, _⟩) (v := ?_) rfl (by kernel_rfl) (by kernel_rfl) (by kernel_rfl) (fun _ _ _ h => h) (Or.inl ⟨by rfl, ?_⟩) (by assumption) ?_
                    rotate_left
                    · intro w hSw; (try dsimp only at hSw); go_simp <;> with_reducible rfl
                    try simp only [Act.put, List.setIfInBounds_toArray, List.set_cons_zero, List.set_cons_succ]
                    refine wpAnyH_take (i := 8) (oi := ⟨some 174, _, _, _, _, _⟩) (v := ?_) rfl (by kernel_rfl) (by kernel_rfl) (by kernel_rfl) (fun _ _ _ h => h) (Or.inl ⟨by rfl, ?_⟩) (by assumption) ?_
                    rotate_left
                    · intro w hSw; (try dsimp only at hSw); go_simp <;> with_reducible rfl
                    try simp only [Act.put, List.setIfInBounds_toArray, List.set_cons_zero, List.set_cons_succ]
                    refine wpAnyH_take (i := 9) (oi := ⟨some 175, _, _, _, _, _⟩) (v := ?_) rfl (by kernel_rfl) (by kernel_rfl) (by kernel_rfl) (fun _ _ _ h => h) (Or.inl ⟨by rfl, ?_⟩) (by assumption) ?_
                    rotate_left
                    · intro w hSw; (try dsimp only at hSw); go_simp <;> with_reducible rfl
                    try simp only [Act.put, List.setIfInBounds_toArray, List.set_cons_zero, List.set_cons_succ]
                    refine wpAnyH_take (i := 10) (oi := ⟨some 176, _, _, _, _, _⟩) (v := ?_) rfl (by kernel_rfl) (by kernel_rfl) (by kernel_rfl) (fun _ _ _ h => h) (Or.inl ⟨by rfl, ?_⟩) (by assumption) ?_
                    rotate_left
                    · intro w hSw; (try dsimp only at hSw); go_simp <;> with_reducible rfl
                    try simp only [Act.put, List.setIfInBounds_toArray, List.set_cons_zero, List.set_cons_succ]
                    refine wpAnyH_take (i := 11) (oi := ⟨some 177, _, _, _, _, _⟩) (v := ?_) rfl (by kernel_rfl) (by kernel_rfl) (by kernel_rfl) (fun _ _ _ h => h) (Or.inl ⟨by rfl, ?_⟩) (by assumption) ?_
                    rotate_left
                    · intro w hSw; (try dsimp only at hSw); go_simp <;> with_reducible rfl
                    try simp only [Act.put, List.setIfInBounds_toArray, List.set_cons_zero, List.set_cons_succ]
                    refine wpAnyH_take (i := 12) (oi := ⟨some 178, _, _, _, _, _⟩) (v := ?_) rfl (by kernel_rfl) (by kernel_rfl) (by kernel_rfl) (fun _ _ _ h => h) (Or.inl ⟨by rfl, ?_⟩) (by assumption) ?_
                    rotate_left
                    · intro w hSw; (try dsimp only at hSw); go_simp <;> with_reducible rfl
                    try simp only [Act.put, List.setIfInBounds_toArray, List.set_cons_zero, List.set_cons_succ]
                    refine wpAnyH_take (i := 13) (oi := ⟨some 179, _, _, _, _, _⟩) (v := ?_) rfl (by kernel_rfl) (by kernel_rfl) (by kernel_rfl) (fun _ _ _ h => h) (Or.inl ⟨by rfl, ?_⟩) (by assumption) ?_
                    rotate_left
                    · intro w hSw; (try dsimp only at hSw); go_simp <;> with_reducible rfl
                    try simp only [Act.put, List.setIfInBounds_toArray, List.set_cons_zero, List.set_cons_succ]
                    refine wpAnyH_take (i := 14) (oi := ⟨some 180, _, _, _, _, _⟩) (v := ?_) rfl (by kernel_rfl) (by kernel_rfl) (by kernel_rfl) (fun _ _ _ h => h) (Or.inl ⟨by rfl, ?_⟩) (by assumption) ?_
                    rotate_left
                    · intro w hSw; (try dsimp only at hSw); go_simp <;> with_reducible rfl
                    try simp only [Act.put, List.setIfInBounds_toArray, List.set_cons_zero, List.set_cons_succ]
                    refine wpAnyH_take (i := 15) (oi := ⟨some 181, _, _, _, _, _⟩) (v := ?_) rfl (by kernel_rfl) (by kernel_rfl) (by kernel_rfl) (fun _ _ _ h => h) (Or.inl ⟨by rfl, ?_⟩) (by assumption) ?_
                    rotate_left
                    · intro w hSw; (try dsimp only at hSw); go_simp <;> with_reducible rfl
                    try simp only [Act.put, List.setIfInBounds_toArray, List.set_cons_zero, List.set_cons_succ]
                    refine wpAnyH_ready (rs := [16]) (by kernel_rfl) (by simp) ?_
                    refine AllReadyH.cons (o := ⟨some 15, _, _, _, _, _⟩) rfl (fun K hK => ?_) AllReadyH.nil
                    go_simp
                    refine hK.out _ _ ?_ (fun hHeld => ?_)
                    · (try dsimp only); (first | assumption | exact ⟨c2, u2, c3, u3, r0, r1⟩ | (refine sees6 ?_ c2 u2 c3 u3 r0 r1; (repeat (first | exact bnil _ | refine Below.drew ?_ | refine bnew ?_ _))))
                    clear hK K
                    try simp only [Act.put, List.setIfInBounds_toArray, List.set_cons_zero, List.set_cons_succ]
                    refine wpAnyH_ready (rs := [17]) (by kernel_rfl) (by simp) ?_
                    refine AllReadyH.cons (o := ⟨none, _, _, _, _, _⟩) rfl (fun K hK => ?_) AllReadyH.nil
                    go_simp
                    refine hK.out _ _ ?_ (fun hHeld => ?_)
                    · (try dsimp only); (first | assumption | exact ⟨c2, u2, c3, u3, r0, r1⟩ | (refine sees6 ?_ c2 u2 c3 u3 r0 r1; (repeat (first | exact bnil _ | refine Below.drew ?_ | refine bnew ?_ _))))
                    clear hK K
                    try dsimp only [Act.put]
                    refine wpAnyH_done (by kernel_rfl) ?_ _
                    rotate_left
                    have hbc := HBC.out
                    have B7 := hid ((bnew (bnil w6) (.cells #[.int .i64 0, .slice (some ⟨ba, 0, none⟩) 1 ca] 46)).drew)
                    have XC := hid (show Blk ((w6.alloc (.cells #[.int .i64 0, .slice (some ⟨ba, 0, none⟩) 1 ca] 46)).drew) bc 46 #[.int .i64 0, .slice (some ⟨ba, 0, none⟩) 1 ca] from XC0.out)
                    rw [hbc]
                    clear hbc XC0
                    generalize World.drew (World.alloc w6 (.cells #[.int .i64 0, .slice (some ⟨ba, 0, none⟩) 1 ca] 46)) = w7 at *
                    have u0 := cell_below B7.out u0
                    have r2 := cell_below B7.out r2
                    have zf1 := cell_below B7.out zf1
                    have zf4 := cell_below B7.out zf4
                    have zt0 := cell_below B7.out zt0
                    have xc1 : w7.cell? ⟨bc, 1, none⟩ = some (.slice (some ⟨ba, 0, none⟩) 1 ca) := XC.out.cell 1
                    have BZ7 := hid (bgo BZ6.out B7.out)
                    clear c2 c3 u2 u3 r0 r1
                    cases pb with
                    | true =>
                      have HN1 := hid (HP.out.next HDk.out true (fun h => h) (fun _ _ => rfl))
                      go_wp2_with fail
                      go_quiet (fail)
                      go_wp2_with fail
                      go_roundw
                      case rel => first | exact ⟨j + 1, true, by omega, by go_num, rfl, HN1, hid (below_drewN BZ7.out nq)⟩ | exact ⟨j + 1, by omega, by go_num, HN1, hid (below_drewN BZ7.out nq)⟩
                      case measure => simp [intOf]; omega
                    | false =>
                      by_cases hpy : px = yv
                      · subst hpy
                        have e8 : (px == px) = true := by simp
                        by_cases hdb : d.b ≤ ef
                        · have i5 : (d.b : Int) ≤ (ef : Int) := by omega
                          have HN1 := hid (HP.out.next HDk.out true (fun h => rfl) (fun _ _ => rfl))
                          go_wp2_with fail
                          go_quiet (fail)
                          go_wp2_with fail
                          go_roundw
                          case rel => first | exact ⟨j + 1, true, by omega, by go_num, rfl, HN1, hid (below_drewN BZ7.out nq)⟩ | exact ⟨j + 1, by omega, by go_num, HN1, hid (below_drewN BZ7.out nq)⟩
                          case measure => simp [intOf]; omega
                        · have HN1 := hid (HP.out.next HDk.out false (fun h => h) (fun _ h => absurd h hdb))
                          have HI5 := hid (show decide ((d.b : Int) ≤ (ef : Int)) = false by simp; omega)
                          go_wp2_with fail
                          have i5 := HI5.out
                          go_quiet (fail)
                          go_wp2_with fail
                          go_roundw
                          case rel => first | exact ⟨j + 1, false, by omega, by go_num, rfl, HN1, hid (below_drewN BZ7.out nq)⟩ | exact ⟨j + 1, by omega, by go_num, HN1, hid (below_drewN BZ7.out nq)⟩
                          case measure => simp [intOf]; omega
                      · have HN1 := hid (HP.out.next HDk.out false (fun h => h) (fun h => by rw [HPX.out] at h; injection h with h; exact absurd h hpy))
                        have e8 : (px == yv) = false := beqF hpy
                        go_wp2_with fail
                        go_quiet (fail)
                        go_wp2_with fail
                        go_roundw
                        case rel => first | exact ⟨j + 1, false, by omega, by go_num, rfl, HN1, hid (below_drewN BZ7.out nq)⟩ | exact ⟨j + 1, by omega, by go_num, HN1, hid (below_drewN BZ7.out nq)⟩
                        case measure => simp [intOf]; omega
                · obtain rfl : j = k := by omega
                  have j1 : ¬ (j : Int) < (j : Int) := by omega
                  have hpb : pb = true := by
                    obtain ⟨_, _, k', d', a1, a2, a3⟩ := HR.out.fin f df ef HDF.out HEF.out
                    have hl := (List.getElem?_eq_some_iff.1 a1).1
                    rw [List.length_map, HD5.out.len] at hl
                    exact HP.out.all k' d' hl a1 a3 a2
                  subst hpb
                  go_wp2_with fail
                  go_ret
                  exact ⟨rfl, bgo B5.out BZ.out⟩
end Go.Proofs.YtnoinojhocicjaaDoor
