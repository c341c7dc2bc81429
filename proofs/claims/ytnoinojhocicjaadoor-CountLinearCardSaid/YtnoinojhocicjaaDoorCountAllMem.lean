/-
  CountAll: a machine of four threads in memory, beside a schedule that grows.
-/
import Derived.Test.YtnoinojhocicjaaDoorCountAllLaw
import Derived.Test.YtnoinojhocicjaaDoorTellMem
import Derived.Test.YtnoinojhocicjaaDoorSched
namespace Go.Proofs.YtnoinojhocicjaaDoor
open Go.RowKit
set_option linter.unusedVariables false

theorem own_blk {w : World} {B g e n : Nat} {cs : Array Value} (hB : B ≤ g) (h : Blk w g e cs) (hs : cs.size = n) (hn : n ≤ maxLen) : w.ownsRow B e 1 (.slice (some ⟨g, 0, none⟩) n n) n cs.toList := by
  subst hs
  exact ⟨by simp, .inr ⟨g, cs.size, cs, rfl, hB, h, Nat.le_refl _, hn, (by simp), by rw [Nat.mul_one, ← Array.length_toList, List.take_length]⟩⟩
abbrev gV : SV → List Value := fun s => [s.v]
theorem gV_one (x : SV) : ∀ u ∈ gV x, u.oneCell' = true := by intro u hu; simp at hu; subst hu; rfl
theorem elmT4 : Elm Tryd.prog 25 44 1 24 := elm_of (z := .slice none 0 0) Tryd.underlying25 (by kernel_rfl) rfl (by decide)
def th4 (cs : List Int) (j : Nat) : List VCall := if j < 3 then countThs cs 9 j else [⟨1, []⟩]
structure M4 (B B0 : Nat) (w : World) (Cb : Nat) (AW : Option Addr) (cW : Nat) (cv : Nat → Value) (vT : Value) (sv : Nat → SV) (cs : List Int) (av : Nat → List SV) : Prop where
  geC : B ≤ Cb
  cb : Blk w Cb 33 (arrN cv 2)
  os : ∀ i, i < 2 → w.ownsRow B 81 5 (cv i) ([addCode, getCode].getD i []).length (([addCode, getCode].getD i []).flatMap gO)
  rows : ∀ j, j < 4 → CRow B w (sv j).v (th4 cs j) (av j)
  thr : w.ownsRow B 44 1 vT 4 ([sv 0, sv 1, sv 2, sv 3].flatMap gV)
  hw : w.ownsRow B 3 1 (.slice AW 1 cW) 1 ([(0 : Int)].flatMap gI)
  smW : ∀ b, (Value.slice AW 1 cW).ownBlock = some b → b < B0
  smA : ∀ j, j < 4 → ∀ a ∈ av j, ∀ b, a.v.ownBlock = some b → b < B0
section
variable {B B0 : Nat} {w w' : World} {Cb : Nat} {AW : Option Addr} {cW : Nat} {cv : Nat → Value} {vT : Value} {sv : Nat → SV} {cs : List Int} {av : Nat → List SV}
theorem M4.below (h : M4 B B0 w Cb AW cW cv vT sv cs av) (hb : Below w.heap.size w w') : M4 B B0 w' Cb AW cW cv vT sv cs av :=
  ⟨h.geC, h.cb.below' hb, fun i hi => own_below (h.os i hi) hb, fun j hj => (h.rows j hj).below hb, own_below h.thr hb, own_below h.hw hb, h.smW, h.smA⟩
/-- a change in a list of numbers that lies behind B0 -/
theorem M4.ints_ (h : M4 B B0 w Cb AW cW cv vT sv cs av) {n : Nat} {v : Value} {xs : List Value} (hv : w.ownsRow B0 3 1 v n xs) (hc : Chg (fun k => v.ownBlock = some k) w w') : M4 B B0 w' Cb AW cW cv vT sv cs av := by
  have ok : ∀ {e sz : Nat} {u : Value} {n : Nat} {xs : List Value}, e ≠ 3 → w.ownsRow B e sz u n xs → w'.ownsRow B e sz u n xs := fun h1 h2 => own_chg h2 hc fun k hk hm => h1 (own_ty h2 hv hk hm)
  have sm : ∀ {u : Value}, (∀ b, u.ownBlock = some b → b < B0) → ∀ b, u.ownBlock = some b → ¬ v.ownBlock = some b := fun h1 b hb hm => by
    have := h1 b hb; have := (own_ge hv b hm).1; omega
  refine ⟨h.geC, hc.blk h.cb (own_ne_blk hv h.cb (by decide)), fun i hi => ok (by decide) (h.os i hi), fun j hj => ?_, ok (by decide) h.thr, own_chg h.hw hc fun b hb => sm h.smW b hb, h.smW, h.smA⟩
  obtain ⟨r1, r2, r3⟩ := h.rows j hj
  exact ⟨r1, ok (by decide) r2, fun k c a hk hak => own_chg (r3 k c a hk hak) hc fun b hb => sm (h.smA j hj a (List.mem_of_getElem? hak)) b hb⟩
/-- a change in the machine's own block -/
theorem M4.mach_ (h : M4 B B0 w Cb AW cW cv vT sv cs av) {X : Nat} {xs : Array Value} (hX : Blk w X 27 xs) (hc : Chg (fun k => k = X) w w') : M4 B B0 w' Cb AW cW cv vT sv cs av := by
  have ok : ∀ {e sz : Nat} {u : Value} {n : Nat} {xs : List Value}, e ≠ 27 → w.ownsRow B e sz u n xs → w'.ownsRow B e sz u n xs := fun h1 h2 => own_chg h2 hc fun k hk hm => own_ne_blk h2 hX h1 (by rw [hk, hm])
  refine ⟨h.geC, hc.blk h.cb (fun e => by subst e; exact absurd (blk_ty h.cb hX) (by decide)), fun i hi => ok (by decide) (h.os i hi), fun j hj => ?_, ok (by decide) h.thr, ok (by decide) h.hw, h.smW, h.smA⟩
  obtain ⟨r1, r2, r3⟩ := h.rows j hj
  exact ⟨r1, ok (by decide) r2, fun k c a hk hak => ok (by decide) (r3 k c a hk hak)⟩
/-- a thread more -/
theorem M4.of_ {wA w6 : World} {T : Nat} {tv : Nat → Value} {av3 : Nat → List SV} (h : MN B w 2 3 Cb T cv (fun i => [addCode, getCode].getD i []) tv (countThs cs 9) av3) (hw : w.ownsRow B 3 1 (.slice AW 1 cW) 1 ([(0 : Int)].flatMap gI))
    (hB0w : ∀ b, (Value.slice AW 1 cW).ownBlock = some b → b < B0) (hB0 : ∀ j, j < 3 → ∀ a ∈ av3 j, ∀ b, a.v.ownBlock = some b → b < B0)
    (hsv : ∀ j, j < 3 → tv j = (sv j).v) (hb : Below w.heap.size w wA) (h3 : CRow B wA (sv 3).v [⟨1, []⟩] [⟨none, 0, 0⟩]) (hG : wA.grownBy w6 (some T)) (hr : w6.ownsRow B 44 1 vT 4 ([sv 0, sv 1, sv 2, sv 3].flatMap gV)) :
    M4 B B0 w6 Cb AW cW cv vT sv cs (fun j => if j < 3 then av3 j else [⟨none, 0, 0⟩]) := by
  have hA := h.below hb
  have hc := Chg.of_grown hG (M := fun k => k = T) (fun k e => by injection e with e; exact e.symm)
  have ok : ∀ {e sz : Nat} {u : Value} {n : Nat} {xs : List Value}, e ≠ 44 → wA.ownsRow B e sz u n xs → w6.ownsRow B e sz u n xs := fun h1 h2 => own_chg h2 hc fun k hk hm => own_ne_blk h2 hA.tb h1 (by rw [hk, hm])
  refine ⟨h.geC, hc.blk hA.cb (fun e => by subst e; exact absurd (blk_ty hA.cb hA.tb) (by decide)), fun i hi => ok (by decide) (hA.os i hi), fun j hj => ?_, hr, ok (by decide) (own_below hw hb), hB0w, fun j hj a ha => ?_⟩
  · by_cases e : j < 3
    · obtain ⟨r1, r2, r3⟩ := hA.rows j e
      rw [hsv j e] at r2
      unfold th4
      rw [if_pos e, if_pos e]
      exact ⟨r1, ok (by decide) r2, fun k c a hk hak => ok (by decide) (r3 k c a hk hak)⟩
    · obtain rfl : j = 3 := by omega
      unfold th4
      rw [if_neg e, if_neg e]
      exact ⟨h3.1, ok (by decide) h3.2.1, fun k c a hk hak => ok (by decide) (h3.2.2 k c a hk hak)⟩
  · by_cases e : j < 3
    · rw [if_pos e] at ha; exact hB0 j e a ha
    · rw [if_neg e] at ha
      rw [List.mem_singleton.1 ha]
      intro b hb; cases hb
/-- as run.Play sees it -/
theorem M4.mach {At : Option Addr} {c4 : Nat} (h : M4 B B0 w Cb AW cW cv (.slice At 4 c4) sv cs av) : MachAt w (some ⟨Cb, 0, none⟩) 2 At 4 (countMA cs) := by
  have hcall : ∀ j, j < 4 → (countMA cs).threads[j]? = some (th4 cs j) := by
    intro j hj
    rcases (show j = 0 ∨ j = 1 ∨ j = 2 ∨ j = 3 by omega) with rfl | rfl | rfl | rfl <;> rfl
  refine ⟨rfl, rfl, ⟨(arrN cv 2).toList, by simp [arrN], ⟨by simp [arrN], fun _ => ⟨_, rfl, fun j u hu => by rw [ad_at, h.cb.cell j]; simpa using hu⟩⟩, ?_⟩, ⟨[sv 0, sv 1, sv 2, sv 3].flatMap gV, rfl, Sl.own h.thr, ?_⟩⟩
  · intro i code hi
    have hi2 : i < 2 := (List.getElem?_eq_some_iff.1 hi).1
    obtain ⟨A, c, e, _⟩ := own_form (h.os i hi2)
    have ho := h.os i hi2
    rw [e] at ho
    have hcode : code = [addCode, getCode].getD i [] ∧ code.length ≤ 200 ∧ ∀ o ∈ code, OpSh code.length o := by
      rcases (show i = 0 ∨ i = 1 by omega) with rfl | rfl
      · injection hi with hi; subst hi; exact ⟨rfl, by decide, add_sh⟩
      · injection hi with hi; subst hi; exact ⟨rfl, by decide, get_sh⟩
    rw [← hcode.1] at ho e
    exact ⟨A, code.length, c, by rw [Array.getElem?_toList, arrN_at cv hi2, e], hcode.2.1, rfl, hcode.2.2, Sl.own ho⟩
  · intro j calls hj
    have hj4 : j < 4 := (List.getElem?_eq_some_iff.1 hj).1
    rw [hcall j hj4] at hj
    injection hj with hj
    subst hj
    obtain ⟨r1, r2, r3⟩ := h.rows j hj4
    have hok : (th4 cs j).length ≤ 20 ∧ ∀ c ∈ th4 cs j, OkCall c := by
      unfold th4
      split
      · exact ⟨by have := countThs_len cs 9 j; omega, fun c hc => countThs_memB cs 9 j c hc⟩
      · exact ⟨by decide, fun c hc => by rw [List.mem_singleton.1 hc]; exact .inl rfl⟩
    have hlen : (th4 cs j).length = (sv j).n := by
      obtain ⟨A, c, e, _⟩ := own_form r2
      injection e with _ e _
      exact e.symm
    refine ⟨(sv j).A, (sv j).n, (sv j).c, ?_, hlen, by omega, (av j).map SV.v, by rw [List.length_map, r1, hlen], ?_, fun k c v hk hv => ?_⟩
    · rcases (show j = 0 ∨ j = 1 ∨ j = 2 ∨ j = 3 by omega) with rfl | rfl | rfl | rfl <;> rfl
    · rw [← gS_gC]
      have h2 : w.ownsRow B 46 2 (.slice (sv j).A (sv j).n (sv j).c) (sv j).n (((th4 cs j).zip (av j)).flatMap gS) := by
        have := r2; rw [hlen] at this; exact this
      exact Sl.own h2
    · rw [List.getElem?_map] at hv
      obtain ⟨u, hu, rfl⟩ := Option.map_eq_some_iff.1 hv
      have hc : c.code < 2 ∧ c.args.length ≤ 8 := by
        rcases hok.2 c (List.mem_of_getElem? hk) with rfl | ⟨a, rfl, _⟩ <;> simp
      have ho := r3 k c u hk hu
      obtain ⟨A', c', e', _⟩ := own_form ho
      rw [e'] at ho ⊢
      exact ⟨hc.1, A', _, c', rfl, hc.2, Sl.own ho⟩
end
/-- a call in its row: its code, and the number that it adds -/
theorem CRow.call {B : Nat} {w : World} {sv : SV} {calls : List VCall} {avs : List SV} {c : Nat} {x : VCall} (h : CRow B w sv.v calls avs) (hc : calls[c]? = some x) :
    ∃ br At ct, sv = ⟨some ⟨br, 0, none⟩, calls.length, sv.c⟩ ∧ w.cell? ⟨br, c * 2, none⟩ = some (.int .i64 (x.code : Int)) ∧ w.cell? ⟨br, c * 2 + 1, none⟩ = some (.slice At x.args.length ct) ∧ w.ownsRow B 3 1 (.slice At x.args.length ct) x.args.length (x.args.flatMap gI) := by
  obtain ⟨h1, h2, h3⟩ := h
  have hl := (List.getElem?_eq_some_iff.1 hc).1
  obtain ⟨a, ha⟩ : ∃ a, avs[c]? = some a := ⟨_, List.getElem?_eq_getElem (by rw [h1]; exact hl)⟩
  obtain ⟨br, cr, e, _, hcell⟩ := own_at h2 (by omega)
  have hz : (calls.zip avs)[c]? = some (x, a) := by rw [List.getElem?_zip_eq_some]; exact ⟨hc, ha⟩
  have hat : ∀ j u, j < 2 → (gS (x, a))[j]? = some u → w.cell? ⟨br, c * 2 + j, none⟩ = some u := fun j u hj hu => hcell _ _ (by rw [flatMap_at gS 2 (fun _ => rfl) (calls.zip avs) c j _ hz hj, hu])
  have ho := h3 c x a hc ha
  obtain ⟨At, ct, e2, _⟩ := own_form ho
  rw [e2] at ho
  have e1 := hat 1 _ (by decide) rfl
  refine ⟨br, At, ct, ?_, hat 0 _ (by decide) rfl, ?_, ho⟩
  · obtain ⟨A, n, c2⟩ := sv
    injection e with e3 e4 e5
    subst e3 e4
    rfl
  · rw [e1, e2]
/-- the schedule when t threads have had their steps, and the next one i of its own -/
def apS (a : List Nat) : Nat → Nat → List Nat
  | 0, i => a ++ List.replicate i 0
  | t + 1, i => apS a t 200 ++ List.replicate i (t + 1)
theorem apS_next (a : List Nat) (t i : Nat) : apS a t (i + 1) = apS a t i ++ [t] := by
  cases t with
  | zero => unfold apS; rw [List.replicate_succ', List.append_assoc]
  | succ t => unfold apS; rw [List.replicate_succ', List.append_assoc]
theorem apS_up (a : List Nat) (t : Nat) : apS a (t + 1) 0 = apS a t 200 := by
  show apS a t 200 ++ _ = _
  rw [List.replicate_zero, List.append_nil]
theorem apS_all (a : List Nat) : apS a 3 0 = allS a := by rw [apS_up]; rfl
theorem apS_len (a : List Nat) : ∀ t i, (apS a t i).length = a.length + 200 * t + i
  | 0, i => by unfold apS; simp
  | t + 1, i => by unfold apS; rw [List.length_append, apS_len a t 200, List.length_replicate]; omega
theorem apS_lt (a : List Nat) (ha : ∀ x ∈ a, x < 3) : ∀ x ∈ allS a ++ List.replicate 60 3, x < 4 := by
  intro x hx
  unfold allS at hx
  simp only [List.mem_append, List.mem_replicate] at hx
  rcases hx with (((hx | hx) | hx) | hx) | hx
  · have := ha x hx; omega
  all_goals omega
end Go.Proofs.YtnoinojhocicjaaDoor
