/-
  What a search has seen, in memory: a map of lists of objects; and what stays while it grows.
-/
import Derived.Test.YtfdgklfkpofkeaaLnCk
namespace Go.Proofs.Ytfdgklfkpofkeaa
open Go.RowKit Go.Maps
set_option linter.unusedVariables false

theorem step_appN {P : Program} {w : World} {t e : TypeId} {sz bytes : Nat} (E : Elm P t e sz bytes) {α : Type} {g : α → List Value} {ops : Array Oper} {o : Oper} {a : Act} {K : Act → World → Prop} {Q : Exit → Act → World → Prop} {D : Prop} (hw : Region.wanted o (yielded ops a.tmps) = true) (s x : Operand)
    (ho : o.op = .call { callee := .builtin .append, args := #[s, x], argTypes := #[t, t] })
    {base : Nat} (v : Value) (l : List α) (hs : a.eval s = v) (hown : w.ownsRow base e sz v l.length (l.flatMap g))
    {A : Option Addr} {n c : Nat} (m y : List α) (hy : Hid (l ++ m = y)) (hx : a.eval x = .slice A n c) (hr : Sl w sz A n (m.flatMap g)) (hn : m.length = n) (hone : ∀ u ∈ m.flatMap g, u.oneCell' = true)
    (h63 : y.length ≤ maxLen) (hbytes : y.length * bytes ≤ 140737488355328) (hbase : base ≤ w.heap.size)
    (h : ∀ A' c' w', y.length ≤ c' → c' ≤ maxLen → Hid (w'.ownsRow base e sz (.slice A' y.length c') y.length (y.flatMap g)) → Hid (w.grownBy w' v.ownBlock) → Hid ((Value.slice A' y.length c').ownBlock = v.ownBlock ∨ (Value.slice A' y.length c').ownBlock = some w.heap.size) → K (a.put o.dst (.slice A' y.length c')) w') :
    if Region.wanted o (yielded ops a.tmps) = true then Oper.wp P o a w K Q else D := by
  rw [if_pos hw]
  have hy' : l ++ m = y := hy
  subst hy'
  subst hn
  rw [List.length_append] at h63 hbytes
  obtain ⟨i, z, hi, hz, hz1, hz2, hz3⟩ := E.ex
  refine wp_append_sl w s x t ho base e i z sz bytes E.ht hi hz hz1 hz2 hz3 E.pos v l.length (l.flatMap g) hs hown A m.length c (m.flatMap g) hx hr hone h63 hbytes hbase fun v' w' h1 h2 h3 => ?_
  rw [← List.flatMap_append, ← List.length_append] at h1
  obtain ⟨A', c', rfl, hc1, hc2⟩ := own_form h1
  exact h A' c' w' hc1 hc2 h1 h2 h3
theorem gP_one (p : Value × LO) (kd : Nat) (w : World) (h : ObjAt w p.1 p.2) : ∀ u ∈ gP p, u.oneCell' = true := by
  intro u hu
  rw [List.mem_singleton.1 hu]
  cases ho : p.2 with
  | reg x => rw [ho] at h; rw [show p.1 = _ from h]; rfl
  | ctr x => rw [ho] at h; rw [show p.1 = _ from h]; rfl
  | heap b l => rw [ho] at h; obtain ⟨A, n, c, h1, _⟩ := h; rw [h1]; rfl
theorem elmO : Elm Try.prog 101 65 1 16 := elm_of (z := .nilIface) Try.underlying101 (by kernel_rfl) rfl (by decide)
theorem kU : Keyed Try.prog 75 := int_keyed Try.underlying75
theorem wfU : ∀ d < 512, (Lit.int .u64 ((d : Nat) : Int)).wf = true := by decide +kernel
theorem keyU (d : Nat) (h : d < 512) : keyOf Try.prog 75 (.int .u64 (d : Int)) = some (.int .u64 (d : Int)) := keyOf_int_mk Try.underlying75 (wfU d h)
theorem zeroO (w : World) : (zeroValue 101).run Try.prog w = .ok (.slice none 0 0) w := by kernel_rfl

/-- what stays while a search goes on: all below B; all rows but those of objects -/
structure Fr (B : Nat) (w w' : World) : Prop where
  bel : Below B w w'
  row : ∀ g t cs, t ≠ 65 → Blk w g t cs → Blk w' g t cs
theorem Fr.refl (B : Nat) (w : World) : Fr B w w := ⟨Below.refl B w, fun _ _ _ _ h => h⟩
theorem Fr.trans {B : Nat} {a b c : World} (h : Fr B a b) (k : Fr B b c) : Fr B a c := ⟨h.bel.trans k.bel, fun g t cs ht hg => k.row g t cs ht (h.row g t cs ht hg)⟩
theorem Fr.of_below {B : Nat} {w w' : World} (h : Below w.heap.size w w') (hB : B ≤ w.heap.size) : Fr B w w' := ⟨h.mono hB, fun g t cs _ hg => hg.below' h⟩
theorem Fr.of_grown {B : Nat} {w w' : World} {row : Option Nat} (h : w.grownBy w' row) (hw : B ≤ w.heap.size) (hB : ∀ k, row = some k → B ≤ k) (hr : ∀ k t cs, row = some k → t ≠ 65 → ¬ Blk w k t cs) : Fr B w w' :=
  ⟨⟨h.os, h.tape, h.output, h.size, fun k hk => h.block k (by omega) fun e => by have := hB k e.symm; omega⟩, fun g t cs ht hg => (h.block g hg.lt fun e => hr g t cs e.symm ht hg).trans hg⟩
theorem Fr.int {B : Nat} {w w' : World} (h : Fr B w w') (g : Nat) (cs : Array Value) : Blk w g 3 cs → Blk w' g 3 cs := h.row g _ cs (by decide)

/-- the lists that were seen, by sets of acts -/
structure MemoS (W0 w : World) (kd mb N : Nat) (M : Nat → List (Value × LO)) (f : Lit → Option Value) (sv : Nat → Value) : Prop where
  map : MapV w Try.prog 75 mb N f
  get : ∀ d : Nat, (f (.int .u64 (d : Int))).getD (.slice none 0 0) = sv d
  own : ∀ d, Ow W0 w 65 1 gP (sv d) (M d)
  apart : ∀ d d' k, d ≠ d' → (sv d).ownBlock = some k → (sv d').ownBlock ≠ some k
  objs : ∀ d, Objs w kd (M d)
  len : ∀ d, (M d).length ≤ N
  ge : W0.heap.size ≤ mb
def Memo (W0 w : World) (kd mb N : Nat) (M : Nat → List (Value × LO)) : Prop := ∃ f sv, MemoS W0 w kd mb N M f sv
theorem MemoS.below {W0 w w' : World} {kd mb N : Nat} {M : Nat → List (Value × LO)} {f : Lit → Option Value} {sv : Nat → Value} (h : MemoS W0 w kd mb N M f sv) (hb : Below w.heap.size w w') : MemoS W0 w' kd mb N M f sv :=
  ⟨h.map.below hb, h.get, fun d => (h.own d).step hb, h.apart, fun d => (h.objs d).below hb, h.len, h.ge⟩
theorem Memo.below {W0 w w' : World} {kd mb N : Nat} {M : Nat → List (Value × LO)} (h : Memo W0 w kd mb N M) (hb : Below w.heap.size w w') : Memo W0 w' kd mb N M := by
  obtain ⟨f, sv, h⟩ := h; exact ⟨f, sv, h.below hb⟩
theorem MemoS.mono {W0 w : World} {kd mb N N' : Nat} {M : Nat → List (Value × LO)} {f : Lit → Option Value} {sv : Nat → Value} (h : MemoS W0 w kd mb N M f sv) (hN : N ≤ N') : MemoS W0 w kd mb N' M f sv :=
  ⟨h.map.mono hN, h.get, h.own, h.apart, h.objs, fun d => Nat.le_trans (h.len d) hN, h.ge⟩
theorem Memo.mono {W0 w : World} {kd mb N N' : Nat} {M : Nat → List (Value × LO)} (h : Memo W0 w kd mb N M) (hN : N ≤ N') : Memo W0 w kd mb N' M := by
  obtain ⟨f, sv, h⟩ := h; exact ⟨f, sv, h.mono hN⟩
/-- one object more is seen -/
def addM (M : Nat → List (Value × LO)) (d : Nat) (p : Value × LO) : Nat → List (Value × LO) := fun d' => if d' = d then M d ++ [p] else M d'
theorem addM_mem {M : Nat → List (Value × LO)} {d d' : Nat} {p q : Value × LO} (h : q ∈ addM M d p d') : q ∈ M d' ∨ (d' = d ∧ q = p) := by
  unfold addM at h
  split at h
  · rename_i e
    subst e
    rcases List.mem_append.1 h with h | h
    · exact .inl h
    · exact .inr ⟨rfl, List.mem_singleton.1 h⟩
  · exact .inl h
theorem Ow.ne_map {α : Type} {w0 w : World} {e sz : Nat} {g : α → List Value} {v : Value} {l : List α} (h : Ow w0 w e sz g v l) {P : Program} {K : TypeId} {b n : Nat} {f : Lit → Option Value} (hm : MapV w P K b n f) : v.ownBlock ≠ some b := by
  obtain ⟨es, clock, hb⟩ := hm.block
  rcases h.own.2 with ⟨rfl, _⟩ | ⟨g', cap, cur, rfl, _, hh, _⟩
  · simp [Value.ownBlock]
  · intro he
    obtain rfl : g' = b := by simpa [Value.ownBlock] using he
    rw [hb] at hh; cases hh
theorem own_lt9 {α : Type} {w0 w : World} {e sz : Nat} {g : α → List Value} {v : Value} {l : List α} (h : Ow w0 w e sz g v l) {k : Nat} (hk : v.ownBlock = some k) : w0.heap.size ≤ k ∧ k < w.heap.size ∧ ∃ cs, Blk w k e cs := by
  rcases h.own.2 with ⟨rfl, _⟩ | ⟨g', cap, cur, rfl, hg, hh, _⟩
  · simp [Value.ownBlock] at hk
  · obtain rfl : g' = k := by simpa [Value.ownBlock] using hk
    exact ⟨hg, (Array.getElem?_eq_some_iff.1 hh).1, cur, hh⟩
/-- an own list while another one grows -/
theorem Ow.grow {α : Type} {w0 w w' : World} {e sz : Nat} {g : α → List Value} {v : Value} {l : List α} (h : Ow w0 w e sz g v l) {row : Option Nat} (hG : w.grownBy w' row) (hne : ∀ k, v.ownBlock = some k → row ≠ some k) (hr : ∀ k, row = some k → w0.heap.size ≤ k) : Ow w0 w' e sz g v l := by
  refine ⟨own_chg h.own (Chg.of_grown hG (M := fun k => row = some k) (fun k e => e)) (fun k hk => hne k hk), ?_⟩
  have := h.below
  exact ⟨hG.os.trans this.os, hG.tape.trans this.tape, hG.output.trans this.output, Nat.le_trans this.size hG.size, fun k hk => (hG.block k (by have := this.size; omega) fun e => by have := hr k e.symm; omega).trans (this.block k hk)⟩
theorem MemoS.add {W0 w w3 w4 : World} {kd mb N : Nat} {M : Nat → List (Value × LO)} {f : Lit → Option Value} {sv : Nat → Value} (h : MemoS W0 w kd mb N M f sv) {d : Nat} (hd : d < 512) {p : Value × LO} (hp : ObjAt w p.1 p.2) (hk : p.2.kd = kd) (hs : p.2.size ≤ 100)
    {v3 : Value} (h3 : w3.ownsRow W0.heap.size 65 1 v3 (M d ++ [p]).length ((M d ++ [p]).flatMap gP)) (hG : w.grownBy w3 (sv d).ownBlock) (hb : v3.ownBlock = (sv d).ownBlock ∨ v3.ownBlock = some w.heap.size)
    (h4 : MapV w4 Try.prog 75 mb (N + 1) (updV f (.int .u64 (d : Int)) v3)) (hG4 : w3.grownBy w4 (some mb)) :
    Memo W0 w4 kd mb (N + 1) (addM M d p) ∧ Fr W0.heap.size w w4 := by
  have hBw : W0.heap.size ≤ w.heap.size := (h.own d).below.size
  have f1 : Fr W0.heap.size w w3 := Fr.of_grown hG hBw (fun k e => (own_lt9 (h.own d) e).1) (fun k t cs e ht hb => own_ne_blk (h.own d).own hb (Ne.symm ht) e)
  have hm3 : MapV w3 Try.prog 75 mb N f := h.map.kept_ hG fun e => (h.own d).ne_map h.map e.symm
  have f2 : Fr W0.heap.size w3 w4 := Fr.of_grown hG4 (Nat.le_trans hBw hG.size) (fun k e => by injection e with e; subst e; exact h.ge) (fun k t cs e ht hb => by
    injection e with e; subst e
    obtain ⟨es, clock, hb2⟩ := hm3.block
    unfold Blk at hb; rw [hb2] at hb; cases hb)
  have f := f1.trans f2
  have o3 : Ow W0 w3 65 1 gP v3 (M d ++ [p]) := ⟨h3, (h.own d).below.trans f1.bel⟩
  have hv3 : ∀ d', d' ≠ d → ∀ k, v3.ownBlock = some k → (sv d').ownBlock ≠ some k := by
    intro d' hne k hk he
    rcases hb with hb | hb
    · exact h.apart d d' k (Ne.symm hne) (by rw [← hb]; exact hk) he
    · rw [hb] at hk; injection hk with hk
      have := (own_lt9 (h.own d') he).2.1
      omega
  refine ⟨⟨_, fun d' => if d' = d then v3 else sv d', h4, fun d' => ?_, fun d' => ?_, fun d1 d2 k hne h1 => ?_, fun d' => ?_, fun d' => ?_, h.ge⟩, f⟩
  · by_cases e : d' = d
    · subst e
      rw [updV_same (kU.key (keyU d' hd)), if_pos rfl]; rfl
    · rw [updV_other (by intro e2; injection e2 with _ e2; exact e (by omega)), if_neg e]
      exact h.get d'
  · by_cases e : d' = d
    · subst e
      rw [if_pos rfl]
      have : addM M d' p d' = M d' ++ [p] := by unfold addM; rw [if_pos rfl]
      rw [this]
      exact o3.grow hG4 (fun k hk e => o3.ne_map hm3 (hk.trans e.symm)) (fun k e => by injection e with e; subst e; exact h.ge)
    · rw [if_neg e]
      have : addM M d p d' = M d' := by unfold addM; rw [if_neg e]
      rw [this]
      have o2 := (h.own d').grow hG (fun k hk e2 => h.apart d' d k e hk e2) (fun k e2 => (own_lt9 (h.own d) e2).1)
      exact o2.grow hG4 (fun k hk e2 => o2.ne_map hm3 (hk.trans e2.symm)) (fun k e => by injection e with e; subst e; exact h.ge)
  · by_cases e1 : d1 = d
    · by_cases e2 : d2 = d
      · omega
      · rw [if_pos e1] at h1; rw [if_neg e2]; exact hv3 d2 e2 k h1
    · rw [if_neg e1] at h1
      by_cases e2 : d2 = d
      · rw [if_pos e2]; intro h2; exact hv3 d1 e1 k h2 h1
      · rw [if_neg e2]; exact h.apart d1 d2 k hne h1
  · have hall : ∀ q ∈ addM M d p d', ObjAt w q.1 q.2 ∧ q.2.kd = kd ∧ q.2.size ≤ 100 := by
      intro q hq
      rcases addM_mem hq with hq | ⟨_, rfl⟩
      · exact ⟨(h.objs d').at_ q hq, (h.objs d').kd q hq, (h.objs d').sz q hq⟩
      · exact ⟨hp, hk, hs⟩
    exact ⟨fun q hq => (hall q hq).1.keep f.int, fun q hq => (hall q hq).2.1, fun q hq => (hall q hq).2.2⟩
  · unfold addM
    split
    · rw [List.length_append]; have := h.len d; simp; omega
    · have := h.len d'; omega
theorem Seek.fr {W0 w w' : World} {s : Nat} {A : Option Addr} {n c mb : Nat} {l : List LA} (h : Seek w s A n c mb l) (hF : Fr W0.heap.size w w') (h0 : Sl W0 5 A n (l.flatMap gA)) (hb : Below W0.heap.size W0 w) : Seek w' s A n c mb l :=
  ⟨h.len, h.most, hF.row s _ _ (by decide) h.blk, h0.below (hb.trans hF.bel)⟩
end Go.Proofs.Ytfdgklfkpofkeaa
