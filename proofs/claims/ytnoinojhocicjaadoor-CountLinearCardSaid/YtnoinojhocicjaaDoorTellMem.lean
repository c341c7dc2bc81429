/-
  CountTells: a machine of one thread that grows beside a list of numbers.
-/
import Derived.Test.YtnoinojhocicjaaDoorCountMach
import Derived.Test.YtnoinojhocicjaaDoorTellLaw
import Derived.Test.YtnoinojhocicjaaDoorDsAt
namespace Go.Proofs.YtnoinojhocicjaaDoor
open Go.RowKit
set_option linter.unusedVariables false

theorem wpList_appC {P : Program} {w : World} {t e : TypeId} {sz bytes : Nat} (E : Elm P t e sz bytes) {α : Type} {g : α → List Value} (hg : ∀ x, ∀ u ∈ g x, u.oneCell' = true) {ops : Array Oper} {rest : List Oper} {o : Oper} {a : Act} {Q : Exit → Act → World → Prop} (hw : Region.wanted o (yielded ops a.tmps) = true) (s x : Operand)
    (ho : o.op = .call { callee := .builtin .append, args := #[s, x], argTypes := #[t, t] })
    {base : Nat} (v : Value) (l : List α) (hs : a.eval s = v) (hown : w.ownsRow base e sz v l.length (l.flatMap g))
    {A : Option Addr} {n c : Nat} (m y : List α) (hy : Hid (l ++ m = y)) (hx : a.eval x = .slice A n c) (hr : Sl w sz A n (m.flatMap g)) (hn : m.length = n)
    (h63 : y.length ≤ maxLen) (hbytes : y.length * bytes ≤ 140737488355328) (hbase : base ≤ w.heap.size)
    (h : ∀ A' c' w', y.length ≤ c' → c' ≤ maxLen → Hid (w'.ownsRow base e sz (.slice A' y.length c') y.length (y.flatMap g)) → Hid (w.grownBy w' v.ownBlock) → Hid ((Value.slice A' y.length c').ownBlock = v.ownBlock ∨ (Value.slice A' y.length c').ownBlock = some w.heap.size) → wpList P ops Q rest (a.put o.dst (.slice A' y.length c')) w') : wpList P ops Q (o :: rest) a w := by
  have hy' : l ++ m = y := hy
  subst hy'
  rw [List.length_append] at h63 hbytes
  subst hn
  refine wpList_app E hw s x ho v hs hown hx hr (flat_one g hg m) h63 hbytes hbase fun v' w' h1 h2 h3 => ?_
  rw [← List.flatMap_append, ← List.length_append] at h1
  obtain ⟨A', c', rfl, hc1, hc2⟩ := own_form h1
  exact h A' c' w' hc1 hc2 h1 h2 h3
theorem zerosT (N : Nat) (w : World) (b : Nat) (h : w.heap.size = b) : Sl (w.alloc (.cells (madeCells #[Value.int .i64 0] N) 3)) 1 (some ⟨b, 0, none⟩) N (ints ((List.replicate N 0).map fun x : Nat => (x : Int))) := by
  have e : (madeCells #[Value.int .i64 0] N).toList = ints ((List.replicate N 0).map fun x : Nat => (x : Int)) := by
    rw [Go.toList_madeCells_one, List.map_replicate]
    unfold ints
    refine List.ext_getElem? fun j => ?_
    by_cases h : j < N
    · have h1 := flatMap_at gI 1 (fun _ => rfl) (List.replicate N ((0 : Nat) : Int)) j 0 ((0 : Nat) : Int) (by rw [List.getElem?_replicate, if_pos h]) (by decide)
      rw [Nat.mul_one, Nat.add_zero] at h1
      rw [h1, List.getElem?_replicate, if_pos h]; rfl
    · rw [List.getElem?_eq_none (by simp; omega), List.getElem?_eq_none (by rw [flatMap_len gI 1 (fun _ => rfl)]; simp; omega)]
  have h1 := (blkN w 3 (madeCells #[Value.int .i64 0] N) b h).sl 1 N (by rw [← Array.length_toList, e, ints_length]; simp)
  rw [e] at h1
  exact h1
theorem mk1080 (w : World) : (Instr.makeSlice 23 (.int .i64 1080) (.int .i64 1080)).run Tryd.prog w = .ok (.slice (some ⟨w.heap.size, 0, none⟩) 1080 1080) (w.alloc (.cells (madeCells #[Value.int .i64 0] 1080) 3)) :=
  run_make_row' (P := Tryd.prog) 23 3 (.int .i64 0) 8 Tryd.underlying23 (by kernel_rfl) rfl .i64 .i64 1080 (by omega) (by omega) w
/-- other numbers change: the machine stays -/
theorem MN.ints_ {B : Nat} {w w' : World} {nc nt : Nat} {Cb T : Nat} {cv : Nat → Value} {ks : Nat → List Op5} {tv : Nat → Value} {th : Nat → List VCall} {av : Nat → List SV} (h : MN B w nc nt Cb T cv ks tv th av) {B' n : Nat} {v : Value} {xs : List Value} (hv : w.ownsRow B' 3 1 v n xs) (hc : Chg (fun k => v.ownBlock = some k) w w') (ha : ∀ j, j < nt → ∀ a ∈ av j, Apt a.v v) : MN B w' nc nt Cb T cv ks tv th av := by
  have bk : ∀ {g t : Nat} {cs : Array Value}, t ≠ 3 → Blk w g t cs → Blk w' g t cs := fun h1 h2 => hc.blk h2 (own_ne_blk hv h2 (Ne.symm h1))
  have ok : ∀ {e sz : Nat} {u : Value} {n : Nat} {xs : List Value}, e ≠ 3 → w.ownsRow B e sz u n xs → w'.ownsRow B e sz u n xs := fun h1 h2 => own_chg h2 hc fun k hk hm => h1 (own_ty h2 hv hk hm)
  refine ⟨h.geC, h.geT, bk (by decide) h.cb, bk (by decide) h.tb, fun i hi => ok (by decide) (h.os i hi), fun j hj => ?_, h.dist⟩
  obtain ⟨r1, r2, r3⟩ := h.rows j hj
  exact ⟨r1, ok (by decide) r2, fun k c a hk hak => own_chg (r3 k c a hk hak) hc fun b hb hm => ha j hj a (List.mem_of_getElem? hak) b hb hm⟩
def tellThs (xs : List Int) (k : Nat) (j : Nat) : List VCall := if j = 0 then tcalls xs k else []
theorem tellThs_upd (xs : List Int) (k : Nat) : upd (tellThs xs k) 0 (tellThs xs k 0 ++ [⟨0, [tval xs k]⟩, ⟨1, []⟩]) = tellThs xs (k + 1) := by
  funext j
  unfold upd tellThs
  by_cases h : j = 0
  · subst h; simp [tcalls]
  · simp [h]
/-- the machine, what it is to tell, and that they lie apart -/
structure TW (W0 w : World) (X Cb T : Nat) (AW : Option Addr) (cW : Nat) (cv tv : Nat → Value) (av : Nat → List SV) (xs : List Int) (k : Nat) (wv : Value) (ws : List Int) : Prop where
  hx : Blk w X 27 #[.slice AW 1 cW, .slice (some ⟨Cb, 0, none⟩) 2 2, .slice (some ⟨T, 0, none⟩) 1 1]
  hw : w.ownsRow W0.heap.size 3 1 (.slice AW 1 cW) 1 ([(0 : Int)].flatMap gI)
  mn : MN W0.heap.size w 2 1 Cb T cv (fun i => [addCode, getCode].getD i []) tv (tellThs xs k) av
  want : w.ownsRow W0.heap.size 3 1 wv ws.length (ws.flatMap gI)
  aw : Apt (.slice AW 1 cW) wv
  aa : ∀ a ∈ av 0, Apt a.v wv
  below : Below W0.heap.size W0 w
section
variable {W0 w : World} {X Cb T : Nat} {AW : Option Addr} {cW : Nat} {cv tv : Nat → Value} {av : Nat → List SV} {xs : List Int} {k : Nat} {wv : Value} {ws : List Int}
theorem TW.below' {w' : World} (h : TW W0 w X Cb T AW cW cv tv av xs k wv ws) (hb : Below w.heap.size w w') : TW W0 w' X Cb T AW cW cv tv av xs k wv ws :=
  ⟨h.hx.below' hb, own_below h.hw hb, h.mn.below hb, own_below h.want hb, h.aw, h.aa, bgo h.below hb⟩
/-- a number more that is to be told -/
theorem TW.app {wA w6 : World} (h : TW W0 w X Cb T AW cW cv tv av xs k wv ws) (hb : Below w.heap.size w wA) (hG : wA.grownBy w6 wv.ownBlock) {v' : Value} {ws' : List Int} (hr : w6.ownsRow W0.heap.size 3 1 v' ws'.length (ws'.flatMap gI)) (hv : v'.ownBlock = wv.ownBlock ∨ v'.ownBlock = some wA.heap.size) : TW W0 w6 X Cb T AW cW cv tv av xs k v' ws' := by
  have hA := h.below' hb
  have hM := Chg.of_grown hG (M := fun k => wv.ownBlock = some k) (fun k e => e)
  have hnew : ∀ {u : Value}, (∀ b, u.ownBlock = some b → b < wA.heap.size) → Apt u wv → Apt u v' := by
    intro u h1 h2 b hb hb'
    rcases hv with e | e
    · rw [e] at hb'; exact h2 b hb hb'
    · rw [e] at hb'; injection hb' with hb'; have := h1 b hb; omega
  refine ⟨hM.blk hA.hx (own_ne_blk hA.want hA.hx (by decide)), own_chg hA.hw hM (fun k hk hm => hA.aw k hk hm), hA.mn.ints_ hA.want hM (fun j hj => by obtain rfl : j = 0 := (by omega); exact hA.aa), hr, hnew (fun b hb => (own_ge hA.hw b hb).2) hA.aw, fun a ha => ?_, ?_⟩
  · refine hnew (fun b hb => ?_) (hA.aa a ha)
    obtain ⟨r1, r2, r3⟩ := hA.mn.rows 0 (by decide)
    obtain ⟨i, hi⟩ := List.getElem?_of_mem ha
    have hi2 : i < (tellThs xs k 0).length := by rw [← r1]; exact (List.getElem?_eq_some_iff.1 hi).1
    exact (own_ge (r3 i _ a (List.getElem?_eq_getElem hi2) hi) b hb).2
  · exact hA.below.grown hG hA.below.size (fun b hb => (own_ge hA.want b hb).1)
/-- two calls more -/
theorem TW.push {wA w6 : World} (h : TW W0 w X Cb T AW cW cv tv av xs k wv ws) (hb : Below w.heap.size w wA) {bA : Nat} (hbA : w.heap.size ≤ bA) (ha : wA.ownsRow W0.heap.size 3 1 (.slice (some ⟨bA, 0, none⟩) 1 1) 1 ([tval xs k].flatMap gI)) {y : List (VCall × SV)}
    (hy : (tellThs xs k 0).zip (av 0) ++ [(⟨0, [tval xs k]⟩, ⟨some ⟨bA, 0, none⟩, 1, 1⟩), (⟨1, []⟩, ⟨none, 0, 0⟩)] = y)
    (hG : wA.grownBy w6 (tv 0).ownBlock) {v' : Value} (hv : v'.ownBlock = (tv 0).ownBlock ∨ v'.ownBlock = some wA.heap.size) (hr : w6.ownsRow W0.heap.size 46 2 v' y.length (y.flatMap gS)) :
    TW W0 (w6.setCell ⟨T, 0, none⟩ v') X Cb T AW cW cv (upd tv 0 v') (upd av 0 (av 0 ++ [⟨some ⟨bA, 0, none⟩, 1, 1⟩, ⟨none, 0, 0⟩])) xs (k + 1) wv ws := by
  obtain ⟨g1, g2⟩ := h.mn.grown (by decide : 0 < 1) hb hG
  refine ⟨(g2 (by decide) h.hx).far (p := ⟨T, 0, none⟩) ((g2 (by decide) h.hx).ne_ g1 (by decide)) v', h.mn.other (by decide) hb hG h.hw (by decide) (by decide) v', ?_, h.mn.other (by decide) hb hG h.want (by decide) (by decide) v', h.aw, fun a ha' => ?_, (h.mn.chg (by decide) hb hG h.below rfl v').2⟩
  · have h1 := h.mn.snoc (by decide : 0 < 1) [⟨0, [tval xs k]⟩, ⟨1, []⟩] [⟨some ⟨bA, 0, none⟩, 1, 1⟩, ⟨none, 0, 0⟩] hb rfl (fun i c a hc hai => by
      match i, hc, hai with
      | 0, hc, hai => injection hc with hc; injection hai with hai; subst hc hai; exact ha
      | 1, hc, hai => injection hc with hc; injection hai with hai; subst hc hai; exact own0 _ _ _ 1
      | i + 2, hc, hai => simp at hc) hy hG hv hr
    rw [tellThs_upd] at h1
    exact h1
  · rw [upd_same] at ha'
    rcases List.mem_append.1 ha' with h1 | h1
    · exact h.aa a h1
    · simp only [List.mem_cons, List.not_mem_nil, or_false] at h1
      rcases h1 with rfl | rfl
      · intro b hb1 hb2
        injection hb1 with hb1
        have := (own_ge h.want b hb2).2
        simp only at hb1
        omega
      · intro b hb1; cases hb1
end
/-- the machine, as run.Play sees it -/
theorem tell_mach {w : World} {B Cb T : Nat} {cv tv : Nat → Value} {av : Nat → List SV} {xs : List Int} (h : MN B w 2 1 Cb T cv (fun i => [addCode, getCode].getD i []) tv (tellThs xs 9) av) : MachAt w (some ⟨Cb, 0, none⟩) 2 (some ⟨T, 0, none⟩) 1 (tmach xs) := by
  refine h.at_ rfl rfl (fun i hi => ?_) (fun j hj => ?_)
  · rcases (show i = 0 ∨ i = 1 by omega) with rfl | rfl
    · exact ⟨by decide, add_sh⟩
    · exact ⟨by decide, get_sh⟩
  · obtain rfl : j = 0 := by omega
    have key : ∀ k c, c ∈ tcalls xs k → c.code < 2 ∧ c.args.length ≤ 8 := by
      intro k
      induction k with
      | zero => intro c h; cases h
      | succ k ih =>
        intro c h
        unfold tcalls at h
        rcases List.mem_append.1 h with h | h
        · exact ih c h
        · simp only [List.mem_cons, List.not_mem_nil, or_false] at h
          rcases h with rfl | rfl <;> simp
    refine ⟨?_, key 9⟩
    show (tcalls xs 9).length ≤ 20
    rw [tcalls_len]; decide
end Go.Proofs.YtnoinojhocicjaaDoor
