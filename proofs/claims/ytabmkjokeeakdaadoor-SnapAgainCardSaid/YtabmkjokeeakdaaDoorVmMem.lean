/-
  The machine of package vm in memory: other, where it is of words.
-/
import Derived.Test.YtabmkjokeeakdaaDoorVmOther
namespace Go.Proofs.YtabmkjokeeakdaaDoor
open Go.RowKit
set_option linter.unusedVariables false

theorem set_same {cs : Array Value} {i : Nat} {u : Value} (h : cs[i]? = some u) : cs.setIfInBounds i u = cs := by
  obtain ⟨hi, e⟩ := Array.getElem?_eq_some_iff.1 h
  refine Array.ext_getElem? fun j => ?_
  rw [Array.getElem?_setIfInBounds]
  split
  · rename_i e1; subst e1; exact h.symm
  · rfl
theorem vm_word (k : Int) (hk : k = 13 ∨ k = 14 ∨ k = 15) (g b i at_ : Nat) (y c d : Int) (x : Int) (w : World) (cv tv : Value) (r : List Int) (pc err : Int) (ov : Bool) (cs : Array Value) (hr : r.length = 24) (hi : i < 24) (hd : k = 15 → ∃ j : Nat, j < 24 ∧ d = (j : Int)) (h : Tb w g cv r pc tv err ov) (hb : Blk w b 3 cs) (hx : cs[at_]? = some (.int .i64 x)) :
    Calls Tryd.prog 83 #[.pointer (some ⟨g, 0, none⟩), opA k (i : Int) y c d, .pointer (some ⟨b, at_, none⟩)] w fun e w' => e = .returned (.tuple #[]) ∧ Tb w' g cv (vword k i d r x).1 pc tv err ov ∧ Blk w' b 3 (cs.setIfInBounds at_ (.int .i64 (vword k i d r x).2)) ∧ Chg (fun k => k = g ∨ k = b) w w' := by
  rcases hk with rfl | rfl | rfl
  · refine (vm_load g b i at_ y c d x w cv tv r pc err ov cs hr hi h hb hx).mono ?_
    rintro e w' ⟨h1, h2, h3, h4⟩
    exact ⟨h1, h2, by rw [show (vword 13 i d r x).2 = x from rfl, set_same hx]; exact h3, h4.wider fun _ e => .inl e⟩
  · refine (vm_store g b i at_ y c d x w cv tv r pc err ov cs hr hi h hb hx).mono ?_
    rintro e w' ⟨h1, h2, h3, h4⟩
    exact ⟨h1, h2, h3, h4.wider fun _ e => .inr e⟩
  · obtain ⟨j, hj, rfl⟩ := hd rfl
    refine (vm_cas g b i j at_ y c x w cv tv r pc err ov cs hr hi hj h hb hx).mono ?_
    rintro e w' ⟨h1, h2, h3, h4⟩
    have E : vword 15 i j r x = if x = vget r j then (vset r i 1, vget r i) else (vset r i 0, x) := rfl
    rw [E]
    split at h3
    · rename_i he
      rw [if_pos he] at h2 ⊢
      exact ⟨h1, h2, h3, h4⟩
    · rename_i he
      rw [if_neg he] at h2 ⊢
      exact ⟨h1, h2, by rw [set_same hx]; exact h3, h4⟩
theorem ws_at {B : Nat} {w : World} {wv : Value} {ws : List Int} (h : WS B w wv ws) {at_ : Nat} (ha : at_ < ws.length) :
    ∃ b c cs, wv = .slice (some ⟨b, 0, none⟩) ws.length c ∧ Blk w b 3 cs ∧ cs[at_]? = some (.int .i64 (vget ws at_)) ∧
      ∀ w' x, Blk w' b 3 (cs.setIfInBounds at_ (.int .i64 x)) → WS B w' wv (vset ws at_ x) := by
  obtain ⟨b, c, cur, rfl, hb, hk, hs, hc, hm, ht⟩ := own_row h (by omega)
  refine ⟨b, c, cur, rfl, hk, ?_, fun w' x hk' => ?_⟩
  · have h1 := ints_at (l := ws) (k := at_) (x := vget ws at_) (by unfold vget; rw [List.getD_eq_getElem?_getD, Int.toNat_natCast, List.getElem?_eq_getElem ha]; rfl)
    unfold ints at h1
    rw [← ht, List.getElem?_take, if_pos ha] at h1
    rw [← Array.getElem?_toList]; exact h1
  · refine ⟨by rw [flatMap_len _ 1 (fun _ => rfl), Nat.mul_one], .inr ⟨b, c, cur.setIfInBounds at_ (.int .i64 x), by unfold vset; rw [List.length_set], hb, hk', by unfold vset; rw [List.length_set]; exact hc, hm, by simp [hs], ?_⟩⟩
    unfold vset
    rw [Int.toNat_natCast]
    have e := flatMap_set (f := fun x : Int => Value.int .i64 x) ws at_ x
    show _ = (ws.set at_ x).flatMap gI
    rw [e, ← ht, List.length_set, Nat.mul_one, Array.toList_setIfInBounds, List.take_set]
/-- where the word is -/
def vat (o : Op5) (t : Th) : Int := wrap64 (vget t.regs o.b + o.c)
set_option maxHeartbeats 1000000 in
theorem vo_out (k : Int) (hk : k = 13 ∨ k = 14 ∨ k = 15) (B g b : Nat) (a c d : Int) (w : World) (cv tv : Value) (A : Option Addr) (cp : Nat) (t : Th) (ws : List Int) (hb : b < 24) (h : TH B w g cv t tv) (hw : WS B w (.slice A ws.length cp) ws)
    (hat : wrap64 (vget t.regs b + c) < 0 ∨ (ws.length : Int) ≤ wrap64 (vget t.regs b + c)) :
    Calls Tryd.prog 80 #[.pointer (some ⟨g, 0, none⟩), opA k a (b : Int) c d, .slice A ws.length cp] w fun e w' => e = .returned (.tuple #[]) ∧ SP B w w' g cv tv (.slice A ws.length cp) { t with err := 2, over := true } ws := by
  have H := hid h; have HW := hid hw
  have l1 := h.blk.lt
  obtain ⟨c2, _⟩ := h.blk.creg h.len hb
  clear h hw
  have e10 : (k == 10) = false := by rcases hk with rfl | rfl | rfl <;> rfl
  have e11 : (k == 11) = false := by rcases hk with rfl | rfl | rfl <;> rfl
  have e12 : (k == 12) = false := by rcases hk with rfl | rfl | rfl <;> rfl
  have e16 : (k == 16) = false := by rcases hk with rfl | rfl | rfl <;> rfl
  have e17 : (k == 17) = false := by rcases hk with rfl | rfl | rfl <;> rfl
  have hk' := hid hk; clear hk
  have i1 : (b : Int) < 24 := by omega
  generalize hat' : wrap64 (vget t.regs b + c) = p at *
  by_cases h0 : p < 0
  · clear hat
    go_enter Tryd.func80, Tryd.ntmps80
    go_wp2
    go_region
    all_goals
      go_wp2_with fail
      refine (vm_fail g 2 (World.drew (w.alloc _)) cv tv t.regs t.pc t.err t.over H.out.len (H.out.blk.alloc _)).mono ?_
      rintro e w1 ⟨rfl, hb, hc⟩
      go_wp2
      refine bodyPost_ret (results_none rfl _ _ _) rfl ?_
      exact ⟨rfl, SP.same H.out HW.out hb rfl H.out.len ((((Chg.refl (fun k => k = g) w).alloc _).drew).trans hc (fun _ _ h => h))⟩
  · have hp : (ws.length : Int) ≤ p := by omega
    clear hat
    go_enter Tryd.func80, Tryd.ntmps80
    go_wp2
    go_region
    all_goals
      go_wp2_with fail
      refine (vm_fail g 2 (World.drew (w.alloc _)) cv tv t.regs t.pc t.err t.over H.out.len (H.out.blk.alloc _)).mono ?_
      rintro e w1 ⟨rfl, hb, hc⟩
      go_wp2
      refine bodyPost_ret (results_none rfl _ _ _) rfl ?_
      exact ⟨rfl, SP.same H.out HW.out hb rfl H.out.len ((((Chg.refl (fun k => k = g) w).alloc _).drew).trans hc (fun _ _ h => h))⟩
set_option maxHeartbeats 1000000 in
theorem vo_word (k : Int) (hk : k = 13 ∨ k = 14 ∨ k = 15) (B g a b q : Nat) (c d : Int) (w : World) (cv tv : Value) (A : Option Addr) (cp : Nat) (t : Th) (ws : List Int) (ha : a < 24) (hb : b < 24) (hd : k = 15 → ∃ j : Nat, j < 24 ∧ d = (j : Int)) (h : TH B w g cv t tv) (hw : WS B w (.slice A ws.length cp) ws)
    (hap : ∀ k, tv.ownBlock = some k → (Value.slice A ws.length cp).ownBlock ≠ some k) (hat : wrap64 (vget t.regs b + c) = (q : Int)) (hq : q < ws.length) :
    Calls Tryd.prog 80 #[.pointer (some ⟨g, 0, none⟩), opA k (a : Int) (b : Int) c d, .slice A ws.length cp] w fun e w' => e = .returned (.tuple #[]) ∧ SP B w w' g cv tv (.slice A ws.length cp) { t with regs := (vword k a d t.regs (vget ws q)).1 } (vset ws q (vword k a d t.regs (vget ws q)).2) := by
  have H := hid h; have HW := hid hw
  have l1 := h.blk.lt
  obtain ⟨c2, _⟩ := h.blk.creg h.len hb
  obtain ⟨z, cz, cs, hv, hz, hcs, hset⟩ := ws_at hw hq
  injection hv with hA hn hcp
  subst hA; subst hcp
  have HZ := hid hz; have HCS := hid hcs; have HSET := hid hset
  clear h hw hset hz hcs hn
  have e10 : (k == 10) = false := by rcases hk with rfl | rfl | rfl <;> rfl
  have e11 : (k == 11) = false := by rcases hk with rfl | rfl | rfl <;> rfl
  have e12 : (k == 12) = false := by rcases hk with rfl | rfl | rfl <;> rfl
  have e16 : (k == 16) = false := by rcases hk with rfl | rfl | rfl <;> rfl
  have e17 : (k == 17) = false := by rcases hk with rfl | rfl | rfl <;> rfl
  have HK := hid hk; clear hk
  have HD := hid hd; clear hd
  have HAP := hid hap; clear hap
  have i1 : (b : Int) < 24 := by omega
  have i2 : (q : Int) < (ws.length : Int) := by omega
  have i3 : ((ws.length : Int) ≤ (q : Int)) = False := by simp; omega
  have i4 : decide ((ws.length : Int) ≤ (q : Int)) = false := by simp; omega
  have i5 : ¬ ((q : Int) < 0) := by omega
  go_enter Tryd.func80, Tryd.ntmps80
  go_wp2
  go_region
  all_goals
    go_wp2_with fail
    go_region_with (refine (vm_word k HK.out g z a q (b : Int) c d (vget ws q) _ cv tv t.regs t.pc t.err t.over cs H.out.len ha HD.out (show Tb (World.drew (World.drew (w.alloc _))) g cv t.regs t.pc tv t.err t.over from H.out.blk.alloc _) (show Blk (World.drew (World.drew (w.alloc _))) z 3 cs from HZ.out.alloc _) HCS.out).mono ?_; rintro e w1 ⟨rfl, hb1, hz1, hc1⟩)
    all_goals
      go_wp2
      go_end0
      have hc2 : Chg (fun k => k = g ∨ k = z) w w1 := (((Chg.refl (fun k => k = g ∨ k = z) w).alloc _).drew.drew).trans hc1 (fun _ _ h => h)
      refine ⟨rfl, tv, ⟨hb1, own_chg H.out.told hc2 (fun k hk => ?_), ?_⟩, HSET.out _ _ hz1, .inl rfl, hc2.wider (fun k hk => ?_)⟩
      · rintro (e | e)
        · exact own_ne_tb H.out.told H.out.blk (by rw [hk, e])
        · exact HAP.out k hk (by rw [e]; rfl)
      · show (vword k (a : Int) d t.regs (vget ws q)).1.length = 24
        unfold vword
        repeat' split
        all_goals first | exact H.out.len | (rw [vset_len]; exact H.out.len)
      · rcases hk with e | e
        · exact .inl e
        · exact .inr (.inr (by rw [e]; rfl))
end Go.Proofs.YtabmkjokeeakdaaDoor
