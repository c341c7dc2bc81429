/-
  The machine of package vm in memory: a thread's block, and the walks of flag, quotient, fail, word.
-/
import Derived.Test.YtabmkjokeeakdaaDoorVmMath
import Derived.Test.YtabmkjokeeakdaaDoorRow
import Derived.Deep.RegionLaw
import Derived.Deep.RegionWith
namespace Go.Proofs.YtabmkjokeeakdaaDoor
open Go.RowKit
set_option linter.unusedVariables false

/-- the cells of a thread: its code, registers, place, what it told, its code, and whether it is over -/
def thL (cv : Value) (r : List Int) (pc : Int) (tv : Value) (err : Int) (ov : Bool) : List Value := cv :: (ints r ++ [.int .i64 pc, tv, .int .i64 err, .bool ov])
def thA (cv : Value) (r : List Int) (pc : Int) (tv : Value) (err : Int) (ov : Bool) : Array Value := (thL cv r pc tv err ov).toArray
section
variable {cv tv : Value} {r : List Int} {pc err : Int} {ov : Bool}
theorem thA_code : (thA cv r pc tv err ov)[0]? = some cv := rfl
theorem thA_reg (hr : r.length = 24) {i : Nat} (hi : i < 24) : (thA cv r pc tv err ov)[1 + i]? = some (.int .i64 (vget r (i : Int))) := by
  unfold thA thL
  rw [List.getElem?_toArray, Nat.add_comm, List.getElem?_cons_succ, List.getElem?_append_left (by rw [ints_length]; omega)]
  rw [ints_at (l := r) (k := i) (x := r[i]'(by omega)) (List.getElem?_eq_getElem _)]
  unfold vget
  rw [List.getD_eq_getElem?_getD, Int.toNat_natCast, List.getElem?_eq_getElem (by omega)]; rfl
theorem thA_end (hr : r.length = 24) (j : Nat) : (thA cv r pc tv err ov)[25 + j]? = [Value.int .i64 pc, tv, .int .i64 err, .bool ov][j]? := by
  unfold thA thL
  rw [List.getElem?_toArray, show 25 + j = (24 + j) + 1 by omega, List.getElem?_cons_succ, List.getElem?_append_right (by rw [ints_length]; omega), ints_length, hr]
  congr 1; omega
theorem thA_setReg (hr : r.length = 24) {i : Nat} (hi : i < 24) (x : Int) : (thA cv r pc tv err ov).setIfInBounds (1 + i) (.int .i64 x) = thA cv (vset r i x) pc tv err ov := by
  unfold thA thL vset
  rw [List.setIfInBounds_toArray, Nat.add_comm, List.set_cons_succ, List.set_append_left _ _ (by rw [ints_length]; omega), Int.toNat_natCast]
  congr 3
  unfold ints
  have := flatMap_set (f := fun x : Int => Value.int .i64 x) r i x
  rw [this]
theorem thA_setEnd (hr : r.length = 24) (j : Nat) (u : Value) : (thA cv r pc tv err ov).setIfInBounds (25 + j) u = (cv :: (ints r ++ [Value.int .i64 pc, tv, .int .i64 err, .bool ov].set j u)).toArray := by
  unfold thA thL
  rw [List.setIfInBounds_toArray, show 25 + j = (24 + j) + 1 by omega, List.set_cons_succ, List.set_append_right _ _ (by rw [ints_length]; omega), ints_length, hr]
  rw [show 24 + j - 24 = j by omega]
end
/-- a thread's block -/
abbrev Tb (w : World) (g : Nat) (cv : Value) (r : List Int) (pc : Int) (tv : Value) (err : Int) (ov : Bool) : Prop := Blk w g 97 (thA cv r pc tv err ov)
section
variable {w : World} {g : Nat} {cv tv : Value} {r : List Int} {pc err : Int} {ov : Bool}
theorem Tb.c0 (h : Tb w g cv r pc tv err ov) : w.cell? ⟨g, 0, none⟩ = some cv ∧ w.frozen? ⟨g, 0, none⟩ = false := ⟨by rw [h.cell 0]; rfl, h.frozen 0⟩
theorem Tb.cpc (h : Tb w g cv r pc tv err ov) (hr : r.length = 24) : w.cell? ⟨g, 25, none⟩ = some (.int .i64 pc) ∧ w.frozen? ⟨g, 25, none⟩ = false := ⟨by rw [h.cell 25]; exact thA_end hr 0, h.frozen 25⟩
theorem Tb.ctv (h : Tb w g cv r pc tv err ov) (hr : r.length = 24) : w.cell? ⟨g, 26, none⟩ = some tv ∧ w.frozen? ⟨g, 26, none⟩ = false := ⟨by rw [h.cell 26]; exact thA_end hr 1, h.frozen 26⟩
theorem Tb.cerr (h : Tb w g cv r pc tv err ov) (hr : r.length = 24) : w.cell? ⟨g, 27, none⟩ = some (.int .i64 err) ∧ w.frozen? ⟨g, 27, none⟩ = false := ⟨by rw [h.cell 27]; exact thA_end hr 2, h.frozen 27⟩
theorem Tb.cov (h : Tb w g cv r pc tv err ov) (hr : r.length = 24) : w.cell? ⟨g, 28, none⟩ = some (.bool ov) ∧ w.frozen? ⟨g, 28, none⟩ = false := ⟨by rw [h.cell 28]; exact thA_end hr 3, h.frozen 28⟩
theorem Tb.creg (h : Tb w g cv r pc tv err ov) (hr : r.length = 24) {i : Nat} (hi : i < 24) : w.cell? ⟨g, 1 + i, none⟩ = some (.int .i64 (vget r i)) ∧ w.frozen? ⟨g, 1 + i, none⟩ = false := ⟨by rw [h.cell (1 + i)]; exact thA_reg hr hi, h.frozen (1 + i)⟩
theorem Tb.spc (h : Tb w g cv r pc tv err ov) (hr : r.length = 24) (x : Int) : Tb (w.setCell ⟨g, 25, none⟩ (.int .i64 x)) g cv r x tv err ov := by
  have := h.set_ 25 (.int .i64 x); rw [thA_setEnd hr 0] at this; exact this
theorem Tb.stv (h : Tb w g cv r pc tv err ov) (hr : r.length = 24) (x : Value) : Tb (w.setCell ⟨g, 26, none⟩ x) g cv r pc x err ov := by
  have := h.set_ 26 x; rw [thA_setEnd hr 1] at this; exact this
theorem Tb.serr (h : Tb w g cv r pc tv err ov) (hr : r.length = 24) (x : Int) : Tb (w.setCell ⟨g, 27, none⟩ (.int .i64 x)) g cv r pc tv x ov := by
  have := h.set_ 27 (.int .i64 x); rw [thA_setEnd hr 2] at this; exact this
theorem Tb.sov (h : Tb w g cv r pc tv err ov) (hr : r.length = 24) (x : Bool) : Tb (w.setCell ⟨g, 28, none⟩ (.bool x)) g cv r pc tv err x := by
  have := h.set_ 28 (.bool x); rw [thA_setEnd hr 3] at this; exact this
theorem Tb.sreg (h : Tb w g cv r pc tv err ov) (hr : r.length = 24) {i : Nat} (hi : i < 24) (x : Int) : Tb (w.setCell ⟨g, 1 + i, none⟩ (.int .i64 x)) g cv (vset r i x) pc tv err ov := by
  have := h.set_ (1 + i) (.int .i64 x); rw [thA_setReg hr hi] at this; exact this
end
theorem vm_flag (b : Bool) (w : World) : Calls Tryd.prog 79 #[.bool b] w fun e w' => e = .returned (.int .i64 (vflag b)) ∧ w' = w := by
  cases b
  · go_enter Tryd.func79, Tryd.ntmps79
    go_wp2
    go_ret
    exact ⟨rfl, rfl⟩
  · go_enter Tryd.func79, Tryd.ntmps79
    go_wp2
    go_ret
    exact ⟨rfl, rfl⟩
theorem vm_quotient (a b : Int) (q : Bool) (w : World) : Calls Tryd.prog 78 #[.int .i64 a, .int .i64 b, .bool q] w fun e w' => e = .returned (.int .i64 (vquo a b q)) ∧ w' = w := by
  by_cases hb : b = 0
  · subst hb
    go_enter Tryd.func78, Tryd.ntmps78
    go_wp2
    go_ret
    exact ⟨rfl, rfl⟩
  · have e : (b == 0) = false := by simp [hb]
    have HB := hid hb
    cases q
    · go_enter Tryd.func78, Tryd.ntmps78
      go_wp2
      go_ret
      refine ⟨?_, rfl⟩
      unfold vquo
      rw [if_neg HB.out, if_neg (by decide)]; rfl
    · go_enter Tryd.func78, Tryd.ntmps78
      go_wp2
      go_ret
      refine ⟨?_, rfl⟩
      unfold vquo
      rw [if_neg HB.out, if_pos rfl]; rfl
theorem vm_fail (g : Nat) (x : Int) (w : World) (cv tv : Value) (r : List Int) (pc err : Int) (ov : Bool) (hr : r.length = 24) (h : Tb w g cv r pc tv err ov) :
    Calls Tryd.prog 82 #[.pointer (some ⟨g, 0, none⟩), .int .i64 x] w fun e w' => e = .returned (.tuple #[]) ∧ Tb w' g cv r pc tv x true ∧ Chg (fun k => k = g) w w' := by
  have H := hid h; have HR := hid hr; clear h hr
  obtain ⟨c1, f1⟩ := H.out.cerr HR.out
  obtain ⟨c2, f2⟩ := H.out.cov HR.out
  have h1 := H.out.serr HR.out x
  obtain ⟨c3, f3⟩ := h1.cov HR.out
  have H2 := hid (h1.sov HR.out true)
  clear h1
  go_enter Tryd.func82, Tryd.ntmps82
  go_wp2
  go_end0
  exact ⟨rfl, H2.out, ((Chg.refl (fun k => k = g) w).setCell (p := ⟨g, 27, none⟩) (fun _ => rfl) _).setCell (p := ⟨g, 28, none⟩) (fun _ => rfl) _⟩
/-- what Load, Store and Cas do to the registers and the word -/
def vword (k a d : Int) (r : List Int) (x : Int) : List Int × Int :=
  if k = 13 then (vset r a x, x) else if k = 14 then (r, vget r a) else if x = vget r d then (vset r a 1, vget r a) else (vset r a 0, x)
abbrev opA (k a b c d : Int) : Value := .agg #[.int .i64 k, .int .i64 a, .int .i64 b, .int .i64 c, .int .i64 d]
theorem vm_load (g b i at_ : Nat) (y c d : Int) (x : Int) (w : World) (cv tv : Value) (r : List Int) (pc err : Int) (ov : Bool) (cs : Array Value) (hr : r.length = 24) (hi : i < 24) (h : Tb w g cv r pc tv err ov) (hb : Blk w b 3 cs) (hx : cs[at_]? = some (.int .i64 x)) :
    Calls Tryd.prog 83 #[.pointer (some ⟨g, 0, none⟩), opA 13 (i : Int) y c d, .pointer (some ⟨b, at_, none⟩)] w fun e w' => e = .returned (.tuple #[]) ∧ Tb w' g cv (vset r i x) pc tv err ov ∧ Blk w' b 3 cs ∧ Chg (fun k => k = g) w w' := by
  have H := hid h; have HR := hid hr; have HB := hid hb
  have hcx : w.cell? ⟨b, at_, none⟩ = some (.int .i64 x) := by rw [hb.cell]; exact hx
  have l1 := h.lt; have l2 := hb.lt
  clear h hr hb hx
  obtain ⟨c1, f1⟩ := H.out.creg HR.out hi
  go_enter Tryd.func83, Tryd.ntmps83
  go_wp2
  go_region
  go_wp2
  go_end0
  exact ⟨rfl, (H.out.sreg HR.out hi x).alloc _, (HB.out.far (p := ⟨g, 1 + i, none⟩) (HB.out.ne_ H.out (by decide)) _).alloc _, (((Chg.refl (fun k => k = g) w).setCell (p := ⟨g, 1 + i, none⟩) (fun _ => rfl) _).alloc _).drew⟩
theorem vm_store (g b i at_ : Nat) (y c d : Int) (x : Int) (w : World) (cv tv : Value) (r : List Int) (pc err : Int) (ov : Bool) (cs : Array Value) (hr : r.length = 24) (hi : i < 24) (h : Tb w g cv r pc tv err ov) (hb : Blk w b 3 cs) (hx : cs[at_]? = some (.int .i64 x)) :
    Calls Tryd.prog 83 #[.pointer (some ⟨g, 0, none⟩), opA 14 (i : Int) y c d, .pointer (some ⟨b, at_, none⟩)] w fun e w' => e = .returned (.tuple #[]) ∧ Tb w' g cv r pc tv err ov ∧ Blk w' b 3 (cs.setIfInBounds at_ (.int .i64 (vget r i))) ∧ Chg (fun k => k = b) w w' := by
  have H := hid h; have HR := hid hr; have HB := hid hb
  have hcx : w.cell? ⟨b, at_, none⟩ = some (.int .i64 x) := by rw [hb.cell]; exact hx
  have hfx : w.frozen? ⟨b, at_, none⟩ = false := hb.frozen _
  have l1 := h.lt; have l2 := hb.lt
  clear h hr hb hx
  obtain ⟨c1, f1⟩ := H.out.creg HR.out hi
  go_enter Tryd.func83, Tryd.ntmps83
  go_wp2
  go_region
  go_wp2
  go_end0
  exact ⟨rfl, (H.out.far (p := ⟨b, at_, none⟩) (Ne.symm (HB.out.ne_ H.out (by decide))) _).alloc _, (HB.out.set_ at_ _).alloc _, (((Chg.refl (fun k => k = b) w).setCell (p := ⟨b, at_, none⟩) (fun _ => rfl) _).alloc _).drew⟩
theorem vm_cas (g b i j at_ : Nat) (y c : Int) (x : Int) (w : World) (cv tv : Value) (r : List Int) (pc err : Int) (ov : Bool) (cs : Array Value) (hr : r.length = 24) (hi : i < 24) (hj : j < 24) (h : Tb w g cv r pc tv err ov) (hb : Blk w b 3 cs) (hx : cs[at_]? = some (.int .i64 x)) :
    Calls Tryd.prog 83 #[.pointer (some ⟨g, 0, none⟩), opA 15 (i : Int) y c (j : Int), .pointer (some ⟨b, at_, none⟩)] w fun e w' => e = .returned (.tuple #[]) ∧ Tb w' g cv (vset r i (if x = vget r j then 1 else 0)) pc tv err ov ∧ Blk w' b 3 (if x = vget r j then cs.setIfInBounds at_ (.int .i64 (vget r i)) else cs) ∧ Chg (fun k => k = g ∨ k = b) w w' := by
  have H := hid h; have HR := hid hr; have HB := hid hb
  have hcx : w.cell? ⟨b, at_, none⟩ = some (.int .i64 x) := by rw [hb.cell]; exact hx
  have hfx : w.frozen? ⟨b, at_, none⟩ = false := hb.frozen _
  have l1 := h.lt; have l2 := hb.lt
  clear h hr hb hx
  obtain ⟨c1, f1⟩ := H.out.creg HR.out hi
  obtain ⟨c2, _⟩ := H.out.creg HR.out hj
  by_cases hq : x = vget r j
  · rw [if_pos hq, if_pos hq]
    have hqq : (x == vget r j) = true := by simp [hq]
    have HQ := hid hq; clear hq
    have H2 : Hid (Tb (w.setCell ⟨b, at_, none⟩ (.int .i64 (vget r i))) g cv r pc tv err ov) := hid (H.out.far (p := ⟨b, at_, none⟩) (Ne.symm (HB.out.ne_ H.out (by decide))) (.int .i64 (vget r i)))
    go_enter Tryd.func83, Tryd.ntmps83
    go_wp2
    go_region
    go_wp2
    go_region
    go_wp2_with fail
    have hgb : g ≠ b := Ne.symm (HB.out.ne_ H.out (by decide))
    have hbg : b ≠ g := HB.out.ne_ H.out (by decide)
    go_region_with (refine (vm_flag _ _).mono ?_; rintro e w1 ⟨rfl, rfl⟩)
    all_goals
      go_wp2
      go_end0
      exact ⟨rfl, (H2.out.sreg HR.out hi 1).alloc _, ((HB.out.set_ at_ _).far (p := ⟨g, 1 + i, none⟩) (HB.out.ne_ H.out (by decide)) _).alloc _, ((((Chg.refl (fun k => k = g ∨ k = b) w).setCell (p := ⟨b, at_, none⟩) (fun _ => .inr rfl) _).setCell (p := ⟨g, 1 + i, none⟩) (fun _ => .inl rfl) _).alloc _).drew.drew.drew⟩
  · rw [if_neg hq, if_neg hq]
    have hqq : (x == vget r j) = false := by simp [hq]
    go_enter Tryd.func83, Tryd.ntmps83
    go_wp2
    go_region
    go_wp2_with fail
    go_region_with (refine (vm_flag _ _).mono ?_; rintro e w1 ⟨rfl, rfl⟩)
    all_goals
      go_wp2
      go_end0
      exact ⟨rfl, (H.out.sreg HR.out hi 0).alloc _, (HB.out.far (p := ⟨g, 1 + i, none⟩) (HB.out.ne_ H.out (by decide)) _).alloc _, (((Chg.refl (fun k => k = g ∨ k = b) w).setCell (p := ⟨g, 1 + i, none⟩) (fun _ => .inl rfl) _).alloc _).drew.drew⟩
end Go.Proofs.YtabmkjokeeakdaaDoor
