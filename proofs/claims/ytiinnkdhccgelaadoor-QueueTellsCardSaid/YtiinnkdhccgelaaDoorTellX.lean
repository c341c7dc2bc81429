/-
  A machine of one thread that grows beside two lists of numbers: what it is to tell, and what there is.
-/
import Derived.Test.YtiinnkdhccgelaaDoorMachN
import Derived.Test.YtiinnkdhccgelaaDoorXTell
import Derived.Test.YtiinnkdhccgelaaDoorDsAt
import Derived.Test.YtiinnkdhccgelaaDoorOffRow
import Derived.Test.YtiinnkdhccgelaaDoorOWalk
namespace Go.Proofs.YtiinnkdhccgelaaDoor
open Go.RowKit
set_option linter.unusedVariables false

theorem wpList_appC {P : Program} {w : World} {t e : TypeId} {sz bytes : Nat} (E : Elm P t e sz bytes) {α : Type} {g : α → List Value} (hg : ∀ x, ∀ u ∈ g x, u.oneCell' = true) {ops : Array Oper} {rest : List Oper} {o : Oper} {a : Act} {Q : Exit → Act → World → Prop} (hw : Region.wanted o (yielded ops a.tmps) = true) (s x : Operand)
    (ho : o.op = .call { callee := .builtin .append, args := #[s, x], argTypes := #[t, t] })
    {base : Nat} (v : Value) (l : List α) (hs : a.eval s = v) (hown : w.ownsRow base e sz v l.length (l.flatMap g))
    {A : Option Addr} {n c : Nat} (m y : List α) (hy : Hid (l ++ m = y)) (hx : a.eval x = .slice A n c) (hr : Sl w sz A n (m.flatMap g)) (hn : m.length = n)
    (h63 : y.length ≤ maxLen) (hbytes : y.length * bytes ≤ 140737488355328) (hbase : base ≤ w.heap.size)
    (h : ∀ A' c' w', y.length ≤ c' → c' ≤ maxLen → Hid (w'.ownsRow base e sz (.slice A' y.length c') y.length (y.flatMap g)) → Hid (w.grownBy w' v.ownBlock) → Hid ((Value.slice A' y.length c').ownBlock = v.ownBlock ∨ (Value.slice A' y.length c').ownBlock = some w.heap.size) → wpList P ops Q rest (a.put o.dst (.slice A' y.length c')) w') : wpList P ops Q (o :: rest) a w := by
  have hy' : l ++ m = y := hy
  subst hy'
  rw [List.length_append] at h63 hbytes
  subst hn
  refine wpList_app E hw s x ho v hs hown hx hr (flat_one g hg m) h63 hbytes hbase fun v' w' h1 h2 h3 => ?_
  rw [← List.flatMap_append, ← List.length_append] at h1
  obtain ⟨A', c', rfl, hc1, hc2⟩ := own_form h1
  exact h A' c' w' hc1 hc2 h1 h2 h3
theorem zerosT (N : Nat) (w : World) (b : Nat) (h : w.heap.size = b) : Sl (w.alloc (.cells (madeCells #[Value.int .i64 0] N) 3)) 1 (some ⟨b, 0, none⟩) N (ints ((List.replicate N 0).map fun x : Nat => (x : Int))) := by
  have e : (madeCells #[Value.int .i64 0] N).toList = ints ((List.replicate N 0).map fun x : Nat => (x : Int)) := by
    rw [Go.toList_madeCells_one, List.map_replicate]
    unfold ints
    refine List.ext_getElem? fun j => ?_
    by_cases h : j < N
    · have h1 := flatMap_at gI 1 (fun _ => rfl) (List.replicate N ((0 : Nat) : Int)) j 0 ((0 : Nat) : Int) (by rw [List.getElem?_replicate, if_pos h]) (by decide)
      rw [Nat.mul_one, Nat.add_zero] at h1
      rw [h1, List.getElem?_replicate, if_pos h]; rfl
    · rw [List.getElem?_eq_none (by simp; omega), List.getElem?_eq_none (by rw [flatMap_len gI 1 (fun _ => rfl)]; simp; omega)]
  have h1 := (blkN w 3 (madeCells #[Value.int .i64 0] N) b h).sl 1 N (by rw [← Array.length_toList, e, ints_length]; simp)
  rw [e] at h1
  exact h1
/-- other numbers change: the machine stays -/
theorem MN.intsQ {B : Nat} {w w' : World} {nc nt : Nat} {Cb T : Nat} {cv : Nat → Value} {ks : Nat → List Op5} {tv : Nat → Value} {th : Nat → List VCall} {av : Nat → List SV} (h : MN B w nc nt Cb T cv ks tv th av) {v : Value} (hv : ∀ (t : TypeId) (cs : Array Value) (b : Nat), v.ownBlock = some b → Blk w b t cs → t = 3) (hc : Chg (fun k => v.ownBlock = some k) w w') (ha : ∀ j, j < nt → ∀ a ∈ av j, Apt a.v v) : MN B w' nc nt Cb T cv ks tv th av := by
  have bk : ∀ {g t : Nat} {cs : Array Value}, t ≠ 3 → Blk w g t cs → Blk w' g t cs := fun h1 h2 => hc.blk h2 fun hm => h1 (hv _ _ _ hm h2)
  have ok : ∀ {e sz : Nat} {u : Value} {n : Nat} {xs : List Value}, e ≠ 3 → w.ownsRow B e sz u n xs → w'.ownsRow B e sz u n xs := fun {e sz u n xs} h1 h2 => own_chg h2 hc fun k hk hm => by
    rcases h2.2 with ⟨rfl, _⟩ | ⟨g, cap, cur, rfl, _, hh, _⟩
    · cases hk
    · injection hk with hk; simp only at hk; subst hk
      exact h1 (hv _ _ _ hm hh)
  refine ⟨h.geC, h.geT, bk (by decide) h.cb, bk (by decide) h.tb, fun i hi => ok (by decide) (h.os i hi), fun j hj => ?_, h.dist⟩
  obtain ⟨r1, r2, r3⟩ := h.rows j hj
  exact ⟨r1, ok (by decide) r2, fun k c a hk hak => own_chg (r3 k c a hk hak) hc fun b hb hm => ha j hj a (List.mem_of_getElem? hak) b hb hm⟩
def oneTh (l : List VCall) (j : Nat) : List VCall := if j = 0 then l else []
theorem oneTh_upd (l m : List VCall) : upd (oneTh l) 0 (oneTh l 0 ++ m) = oneTh (l ++ m) := by
  funext j
  unfold upd oneTh
  by_cases h : j = 0
  · subst h; simp
  · simp [h]
structure TX (W0 w : World) (X Cb T : Nat) (AW : Option Addr) (NW cW : Nat) (WS : List Int) (k1 k2 : List Op5) (cv tv : Nat → Value) (av : Nat → List SV) (calls : List VCall) (wv : Value) (ws : List Int) (hv : Value) (hs : List Int) : Prop where
  hx : Blk w X 34 #[.slice AW NW cW, .slice (some ⟨Cb, 0, none⟩) 2 2, .slice (some ⟨T, 0, none⟩) 1 1]
  hw : w.ownsRow W0.heap.size 3 1 (.slice AW NW cW) NW (WS.flatMap gI)
  mn : MN W0.heap.size w 2 1 Cb T cv (fun i => [k1, k2].getD i []) tv (oneTh calls) av
  want : w.ownsRow W0.heap.size 3 1 wv ws.length (ws.flatMap gI)
  has : OwnQ w W0.heap.size hv hs
  aw : Apt (.slice AW NW cW) wv
  ah : Apt (.slice AW NW cW) hv
  wh : Apt wv hv
  aa : ∀ a ∈ av 0, Apt a.v wv
  aq : ∀ a ∈ av 0, Apt a.v hv
  below : Below W0.heap.size W0 w
section
variable {W0 w : World} {X Cb T : Nat} {AW : Option Addr} {NW cW : Nat} {WS : List Int} {k1 k2 : List Op5} {cv tv : Nat → Value} {av : Nat → List SV} {calls : List VCall} {wv : Value} {ws : List Int} {hv : Value} {hs : List Int}
theorem TX.below' {w' : World} (h : TX W0 w X Cb T AW NW cW WS k1 k2 cv tv av calls wv ws hv hs) (hb : Below w.heap.size w w') : TX W0 w' X Cb T AW NW cW WS k1 k2 cv tv av calls wv ws hv hs :=
  ⟨h.hx.below' hb, own_below h.hw hb, h.mn.below hb, own_below h.want hb, h.has.below hb, h.aw, h.ah, h.wh, h.aa, h.aq, bgo h.below hb⟩
theorem TX.avlt (h : TX W0 w X Cb T AW NW cW WS k1 k2 cv tv av calls wv ws hv hs) {a : SV} (ha : a ∈ av 0) : ∀ b, a.v.ownBlock = some b → b < w.heap.size := fun b hb => by
  obtain ⟨r1, r2, r3⟩ := h.mn.rows 0 (by decide)
  obtain ⟨i, hi⟩ := List.getElem?_of_mem ha
  have hi2 : i < (oneTh calls 0).length := by rw [← r1]; exact (List.getElem?_eq_some_iff.1 hi).1
  exact (own_ge (r3 i _ a (List.getElem?_eq_getElem hi2) hi) b hb).2
theorem apt_new {u v v' : Value} {n : Nat} (h1 : ∀ b, u.ownBlock = some b → b < n) (h2 : Apt u v) (hv : v'.ownBlock = v.ownBlock ∨ v'.ownBlock = some n) : Apt u v' := by
  intro b hb hb'
  rcases hv with e | e
  · rw [e] at hb'; exact h2 b hb hb'
  · rw [e] at hb'; injection hb' with hb'; have := h1 b hb; omega
/-- a number more that is to be told -/
theorem TX.app {wA w6 : World} (h : TX W0 w X Cb T AW NW cW WS k1 k2 cv tv av calls wv ws hv hs) (hb : Below w.heap.size w wA) (hG : wA.grownBy w6 wv.ownBlock) {v' : Value} {ws' : List Int} (hr : w6.ownsRow W0.heap.size 3 1 v' ws'.length (ws'.flatMap gI)) (hv' : v'.ownBlock = wv.ownBlock ∨ v'.ownBlock = some wA.heap.size) : TX W0 w6 X Cb T AW NW cW WS k1 k2 cv tv av calls v' ws' hv hs := by
  have hA := h.below' hb
  have hM := Chg.of_grown hG (M := fun k => wv.ownBlock = some k) (fun k e => e)
  refine ⟨hM.blk hA.hx (own_ne_blk hA.want hA.hx (by decide)), own_chg hA.hw hM (fun k hk hm => hA.aw k hk hm), hA.mn.intsQ (fun t cs b hb hB => by
      rcases hA.want.2 with ⟨rfl, _⟩ | ⟨g, cap, cur, rfl, _, hh, _⟩
      · cases hb
      · injection hb with hb; simp only at hb; subst hb
        unfold Blk at hB; rw [hh] at hB; injection hB with hB; injection hB with _ hB; exact hB.symm) hM (fun j hj => by obtain rfl : j = 0 := (by omega); exact hA.aa), hr, hA.has.chg hM (fun k hk hm => hA.wh k hm hk), apt_new (fun b hb => (own_ge hA.hw b hb).2) hA.aw hv', hA.ah, ?_, fun a ha => apt_new (hA.avlt ha) (hA.aa a ha) hv', hA.aq, ?_⟩
  · exact (apt_new (fun b hb => (hA.has.ge b hb).2) hA.wh.symm hv').symm
  · exact hA.below.grown hG hA.below.size (fun b hb => (own_ge hA.want b hb).1)
/-- a number more that there is -/
theorem TX.apph {wA w6 : World} (h : TX W0 w X Cb T AW NW cW WS k1 k2 cv tv av calls wv ws hv hs) (hb : Below w.heap.size w wA) (hG : wA.grownBy w6 hv.ownBlock) {v' : Value} {hs' : List Int} (hr : OwnQ w6 W0.heap.size v' hs') (hv' : v'.ownBlock = hv.ownBlock ∨ v'.ownBlock = some wA.heap.size) : TX W0 w6 X Cb T AW NW cW WS k1 k2 cv tv av calls wv ws v' hs' := by
  have hA := h.below' hb
  have hM := Chg.of_grown hG (M := fun k => hv.ownBlock = some k) (fun k e => e)
  have ty : ∀ (t : TypeId) (cs : Array Value) (b : Nat), hv.ownBlock = some b → Blk wA b t cs → t = 3 := fun t cs b h1 h2 => hA.has.ty h1 h2
  refine ⟨hM.blk hA.hx (fun hm => absurd (ty _ _ _ hm hA.hx) (by decide)), own_chg hA.hw hM (fun k hk hm => hA.ah k hk hm), hA.mn.intsQ ty hM (fun j hj => by obtain rfl : j = 0 := (by omega); exact hA.aq), own_chg hA.want hM (fun k hk hm => hA.wh k hk hm), hr, hA.aw, apt_new (fun b hb => (own_ge hA.hw b hb).2) hA.ah hv', apt_new (fun b hb => (own_ge hA.want b hb).2) hA.wh hv', hA.aa, fun a ha => apt_new (hA.avlt ha) (hA.aq a ha) hv', ?_⟩
  exact hA.below.grown hG hA.below.size (fun b hb => (hA.has.ge b hb).1)
/-- less there is -/
theorem TX.hset (h : TX W0 w X Cb T AW NW cW WS k1 k2 cv tv av calls wv ws hv hs) {v' : Value} {hs' : List Int} (hr : OwnQ w W0.heap.size v' hs') (hv' : v'.ownBlock = hv.ownBlock) : TX W0 w X Cb T AW NW cW WS k1 k2 cv tv av calls wv ws v' hs' :=
  ⟨h.hx, h.hw, h.mn, h.want, hr, h.aw, fun b h1 h2 => h.ah b h1 (by rw [← hv']; exact h2), fun b h1 h2 => h.wh b h1 (by rw [← hv']; exact h2), h.aa, fun a ha b h1 h2 => h.aq a ha b h1 (by rw [← hv']; exact h2), h.below⟩
/-- a call more -/
theorem TX.push {wA w6 : World} (h : TX W0 w X Cb T AW NW cW WS k1 k2 cv tv av calls wv ws hv hs) (hb : Below w.heap.size w wA) {c : VCall} {a : SV} (hbA : ∀ b, a.v.ownBlock = some b → w.heap.size ≤ b) (ha : wA.ownsRow W0.heap.size 3 1 a.v c.args.length (c.args.flatMap gI)) {y : List (VCall × SV)}
    (hy : (oneTh calls 0).zip (av 0) ++ [(c, a)] = y)
    (hG : wA.grownBy w6 (tv 0).ownBlock) {v' : Value} (hv' : v'.ownBlock = (tv 0).ownBlock ∨ v'.ownBlock = some wA.heap.size) (hr : w6.ownsRow W0.heap.size 53 2 v' y.length (y.flatMap gS)) :
    TX W0 (w6.setCell ⟨T, 0, none⟩ v') X Cb T AW NW cW WS k1 k2 cv (upd tv 0 v') (upd av 0 (av 0 ++ [a])) (calls ++ [c]) wv ws hv hs := by
  obtain ⟨g1, g2⟩ := h.mn.grown (by decide : 0 < 1) hb hG
  have hA := h.below' hb
  have hrow := (hA.mn.rows 0 (by decide)).2.1
  have hM := Chg.of_grown hG (M := fun k => (tv 0).ownBlock = some k) (fun k e => e)
  have hq6 : OwnQ w6 W0.heap.size hv hs := hA.has.chg hM fun k hk hm => by
    rcases hrow.2 with ⟨e, _⟩ | ⟨g, cap, cur, e, _, hh, _⟩
    · rw [e] at hm; cases hm
    · rw [e] at hm; injection hm with hm; simp only at hm; subst hm
      exact absurd (hA.has.ty hk hh) (by decide)
  have hq7 : OwnQ (w6.setCell ⟨T, 0, none⟩ v') W0.heap.size hv hs := hq6.chg ((Chg.refl (fun k => k = T) w6).setCell (p := ⟨T, 0, none⟩) (fun _ => rfl) _) fun k hk hm => by
    subst hm
    exact absurd (hq6.ty hk g1) (by decide)
  refine ⟨(g2 (by decide) h.hx).far (p := ⟨T, 0, none⟩) ((g2 (by decide) h.hx).ne_ g1 (by decide)) v', h.mn.other (by decide) hb hG h.hw (by decide) (by decide) v', ?_, h.mn.other (by decide) hb hG h.want (by decide) (by decide) v', hq7, h.aw, h.ah, h.wh, fun x hx => ?_, fun x hx => ?_, (h.mn.chg (by decide) hb hG h.below rfl v').2⟩
  · have h1 := h.mn.snoc (by decide : 0 < 1) [c] [a] hb rfl (fun i c' a' hc hai => by
      match i, hc, hai with
      | 0, hc, hai => injection hc with hc; injection hai with hai; subst hc hai; exact ha
      | i + 1, hc, hai => simp at hc) hy hG hv' hr
    rw [oneTh_upd] at h1
    exact h1
  · rw [upd_same] at hx
    rcases List.mem_append.1 hx with h1 | h1
    · exact h.aa x h1
    · rw [List.mem_singleton.1 h1]
      intro b hb1 hb2
      have := (own_ge h.want b hb2).2
      have := hbA b hb1
      omega
  · rw [upd_same] at hx
    rcases List.mem_append.1 hx with h1 | h1
    · exact h.aq x h1
    · rw [List.mem_singleton.1 h1]
      intro b hb1 hb2
      have := (h.has.ge b hb2).2
      have := hbA b hb1
      omega
end
/-- the machine, as run.Play sees it -/
theorem x_mach {w : World} {B Cb T : Nat} {cv tv : Nat → Value} {av : Nat → List SV} {WS : List Int} {k1 k2 : List Op5} {f : Nat → Int} {kinds : List Bool} (h : MN B w 2 1 Cb T cv (fun i => [k1, k2].getD i []) tv (oneTh (xcalls f kinds 20)) av)
    (l1 : k1.length ≤ 200) (l2 : k2.length ≤ 200) (s1 : ∀ o ∈ k1, OpSh k1.length o) (s2 : ∀ o ∈ k2, OpSh k2.length o) : MachAt w (some ⟨Cb, 0, none⟩) 2 (some ⟨T, 0, none⟩) 1 (xmach WS k1 k2 f kinds 20) := by
  refine h.at_ rfl rfl (fun i hi => ?_) (fun j hj => ?_)
  · rcases (show i = 0 ∨ i = 1 by omega) with rfl | rfl
    · exact ⟨l1, s1⟩
    · exact ⟨l2, s2⟩
  · obtain rfl : j = 0 := by omega
    refine ⟨by show (xcalls f kinds 20).length ≤ 20; rw [xcalls_len]; decide, fun c hc => ?_⟩
    have hc : c ∈ xcalls f kinds 20 := hc
    unfold xcalls at hc
    obtain ⟨i, _, rfl⟩ := List.mem_map.1 hc
    unfold xcall
    split <;> simp
end Go.Proofs.YtiinnkdhccgelaaDoor
