/-
  SnapTells: its walk. Written by gen_snapte.py.
-/
import Derived.Test.YtabmkjokeeakdaaDoorSnapTe0
import Derived.Test.YtabmkjokeeakdaaDoorRan
import Derived.Test.YtabmkjokeeakdaaDoorDsAt
import Derived.Deep.RegionHeld
namespace Go.Proofs.YtabmkjokeeakdaaDoor
open Go.RowKit
set_option linter.unusedVariables false

/-- a machine while calls are appended -/
structure SBn (W0 w : World) (X Cb T nc nt : Nat) (Wv : Value) (ws : List Int) (cv : Nat → Value) (ks : Nat → List Op5) (tv : Nat → Value) (th : Nat → List VCall) (av : Nat → List SV) : Prop where
  below : Below W0.heap.size W0 w
  hx : Blk w X 29 #[Wv, .slice (some ⟨Cb, 0, none⟩) nc nc, .slice (some ⟨T, 0, none⟩) nt nt]
  own : w.ownsRow W0.heap.size 3 1 Wv ws.length (ws.flatMap gI)
  mn : MN W0.heap.size w nc nt Cb T cv ks tv th av
section
variable {W0 w w' : World} {X Cb T nc nt : Nat} {Wv : Value} {ws : List Int} {cv : Nat → Value} {ks : Nat → List Op5} {tv : Nat → Value} {th : Nat → List VCall} {av : Nat → List SV}
theorem SBn.step (h : SBn W0 w X Cb T nc nt Wv ws cv ks tv th av) (hb : Below w.heap.size w w') : SBn W0 w' X Cb T nc nt Wv ws cv ks tv th av :=
  ⟨bgo h.below hb, h.hx.below' hb, own_below h.own hb, h.mn.below hb⟩
theorem SBn.row (h : SBn W0 w X Cb T nc nt Wv ws cv ks tv th av) {j : Nat} (hj : j < nt) : ∃ (Aj : Option Addr) (cj : Nat), tv j = .slice Aj (th j).length cj ∧ ARow W0 w X T j nt (th j).length Aj cj ((th j).zip (av j)) := by
  have hrow := h.mn.rows j hj
  obtain ⟨Aj, cj, hAj, hcj1, hcj2⟩ := own_form hrow.2.1
  have hlen : ((th j).zip (av j)).length = (th j).length := by rw [List.length_zip, hrow.1, Nat.min_self]
  refine ⟨Aj, cj, hAj, h.below.size, h.hx.cell 2, ?_, h.mn.tb.frozen j, hlen, hcj1, hcj2, fun w' hb => ?_, fun wA w6 hb hG => ?_⟩
  · rw [h.mn.tb.cell j, arrN_at tv hj, hAj]
  · have h1 := own_below hrow.2.1 hb
    rw [hAj] at h1
    rw [hlen]
    exact h1
  · rw [← hAj] at hG
    obtain ⟨g1, g2⟩ := h.mn.grown hj hb hG
    have gX := g2 (by decide) h.hx
    exact ⟨⟨gX.cell 2, g1.frozen j⟩, by rw [g1.cell j, arrN_at tv hj, hAj], fun v => ⟨(gX.far (p := ⟨T, j, none⟩) (gX.ne_ g1 (by decide)) v).cell 2, (g1.set_ j v).frozen j⟩⟩
/-- behind an append -/
theorem SBn.app (h : SBn W0 w X Cb T nc nt Wv ws cv ks tv th av) {j : Nat} (hj : j < nt) {wA w6 : World} {v' : Value} (cs : List VCall) (as_ : List SV) {y : List (VCall × SV)}
    (hb : Below w.heap.size w wA) (hl : as_.length = cs.length) (ha : ∀ (k : Nat) (c : VCall) (a : SV), cs[k]? = some c → as_[k]? = some a → wA.ownsRow W0.heap.size 3 1 a.v c.args.length (c.args.flatMap gI)) (hy : (th j).zip (av j) ++ cs.zip as_ = y)
    (hG : wA.grownBy w6 (tv j).ownBlock) (hv : v'.ownBlock = (tv j).ownBlock ∨ v'.ownBlock = some wA.heap.size) (hr : w6.ownsRow W0.heap.size 35 2 v' y.length (y.flatMap gS)) :
    SBn W0 (w6.setCell ⟨T, j, none⟩ v') X Cb T nc nt Wv ws cv ks (upd tv j v') (upd th j (th j ++ cs)) (upd av j (av j ++ as_)) := by
  obtain ⟨g1, g2⟩ := h.mn.grown hj hb hG
  have far : ∀ {g : Nat} {cs : Array Value}, Blk w g 29 cs → Blk (w6.setCell ⟨T, j, none⟩ v') g 29 cs := fun hx => (g2 (by decide) hx).far (p := ⟨T, j, none⟩) ((g2 (by decide) hx).ne_ g1 (by decide)) v'
  exact ⟨(h.mn.chg hj hb hG h.below rfl v').2, far h.hx, h.mn.other hj hb hG h.own (by decide) (by decide) v', h.mn.snoc hj cs as_ hb hl ha hy hG hv hr⟩
theorem SBn.store (h : SBn W0 w X Cb T nc nt Wv ws cv ks tv th av) {Cn p : Nat} {cs : Array Value} (hB : Blk w Cn 3 cs) (hge : W0.heap.size ≤ Cn) (hW : Wv.ownBlock ≠ some Cn) (hA : ∀ j, j < nt → ∀ a ∈ av j, a.v.ownBlock ≠ some Cn) (u : Value) :
    SBn W0 (w.setCell ⟨Cn, p, none⟩ u) X Cb T nc nt Wv ws cv ks tv th av := by
  have hS : Chg (fun k => k = Cn) w (w.setCell ⟨Cn, p, none⟩ u) := (Chg.refl (fun k => k = Cn) w).setCell (p := ⟨Cn, p, none⟩) (fun _ => rfl) _
  have bkey : ∀ {g t : Nat} {cs : Array Value}, t ≠ 3 → Blk w g t cs → Blk (w.setCell ⟨Cn, p, none⟩ u) g t cs := fun h1 h2 => hS.blk h2 fun e => by subst e; exact h1 (blk_ty h2 hB)
  have okey : ∀ {B' e sz n' : Nat} {v : Value} {xs : List Value}, e ≠ 3 → w.ownsRow B' e sz v n' xs → (w.setCell ⟨Cn, p, none⟩ u).ownsRow B' e sz v n' xs := fun h1 h2 => own_chg h2 hS fun k hk e => own_ne_blk h2 hB h1 (by rw [hk, e])
  refine ⟨h.below.setCell (p := ⟨Cn, p, none⟩) hge u, bkey (by decide) h.hx, own_chg h.own hS fun k hk e => hW (by rw [hk, e]), ⟨h.mn.geC, h.mn.geT, bkey (by decide) h.mn.cb, bkey (by decide) h.mn.tb, fun i hi => okey (by decide) (h.mn.os i hi), fun j' hj' => ?_, h.mn.dist⟩⟩
  obtain ⟨r1, r2, r3⟩ := h.mn.rows j' hj'
  exact ⟨r1, okey (by decide) r2, fun a b c ha hb => own_chg (r3 a b c ha hb) hS fun k hk e => hA j' hj' c (List.mem_of_getElem? hb) (by rw [hk, e])⟩
theorem SBn.ints (h : SBn W0 w X Cb T nc nt Wv ws cv ks tv th av) {j : Nat} (hj : j < nt) {wA w6 : World} (hb : Below w.heap.size w wA) (hG : wA.grownBy w6 (tv j).ownBlock) {Cn : Nat} {cs : Array Value} (hB : Blk w Cn 3 cs) : Blk w6 Cn 3 cs ∧ ∀ v', Blk (w6.setCell ⟨T, j, none⟩ v') Cn 3 cs := by
  obtain ⟨g1, g2⟩ := h.mn.grown hj hb hG
  exact ⟨g2 (by decide) hB, fun v' => (g2 (by decide) hB).far (p := ⟨T, j, none⟩) ((g2 (by decide) hB).ne_ g1 (by decide)) v'⟩
end
def n1 (l : List VCall) (j : Nat) : List VCall := if j = 0 then l else []
theorem n1_app (l : List VCall) (c : VCall) : upd (n1 l) 0 (n1 l 0 ++ [c]) = n1 (l ++ [c]) := by
  funext j
  unfold upd n1
  by_cases h : j = 0
  · subst h; simp
  · simp [h]
theorem n1_put (pv : List (Nat × Nat)) (a b : Nat) : upd (n1 (ncalls pv)) 0 (n1 (ncalls pv) 0 ++ [⟨0, [(a : Int), (b : Int)]⟩]) = n1 (ncalls (pv ++ [(a, b)])) := by
  rw [n1_app]
  unfold ncalls
  rw [List.map_append, List.cons_append]; rfl
theorem na_app1 {av : Nat → List SV} {Cn : Nat} (h : ∀ j, j < 1 → ∀ a ∈ av j, a.v.ownBlock ≠ some Cn) {a0 : SV} (h0 : a0.v.ownBlock ≠ some Cn) : ∀ j, j < 1 → ∀ a ∈ (upd av 0 (av 0 ++ [a0])) j, a.v.ownBlock ≠ some Cn := by
  intro j hj a ha
  obtain rfl : j = 0 := by omega
  unfold upd at ha
  rw [if_pos rfl] at ha
  rcases List.mem_append.1 ha with ha | ha
  · exact h 0 hj a ha
  · rw [List.mem_singleton.1 ha]; exact h0
/-- numbers in memory -/
def intA (l : List Int) : Array Value := (l.map fun x => Value.int .i64 x).toArray
theorem intA_at {l : List Int} {p : Nat} (hp : p < l.length) : (intA l)[p]? = some (.int .i64 (vget l p)) := by
  unfold intA vget
  rw [List.getElem?_toArray, List.getElem?_map, Int.toNat_natCast, List.getD_eq_getElem?_getD, List.getElem?_eq_getElem hp]; rfl
theorem intA_set (l : List Int) (p : Nat) (x : Int) : (intA l).setIfInBounds p (.int .i64 x) = intA (vset l p x) := by
  unfold intA vset
  rw [List.setIfInBounds_toArray, Int.toNat_natCast, List.map_set]
theorem intA_ints (l : List Int) : (intA l).toList = ints l := by
  unfold intA
  show _ = l.flatMap gI
  induction l with
  | nil => rfl
  | cons x l ih => rw [List.map_cons, List.flatMap_cons, ← ih]; rfl
theorem mk_zeros (w : World) (n : Nat) (hn : n ≤ 6000) : ∃ cs : Array Value, (Instr.makeSlice 25 (.int .i64 (n : Int)) (.int .i64 (n : Int))).run Tryd.prog w = .ok (.slice (some ⟨w.heap.size, 0, none⟩) n n) (w.alloc (.cells cs 3)) ∧
    Sl (w.alloc (.cells cs 3)) 1 (some ⟨w.heap.size, 0, none⟩) n (ints ((List.replicate n 0).map fun x : Nat => (x : Int))) := by
  have h := run_make_row' (P := Tryd.prog) 25 3 (.int .i64 0) 8 Tryd.underlying25 (by kernel_rfl) rfl .i64 .i64 n (by omega) (by omega) w
  refine ⟨_, h, ?_⟩
  have e : (Go.madeCells #[.int .i64 0] n).toList = ints ((List.replicate n 0).map fun x : Nat => (x : Int)) := by
    rw [Go.toList_madeCells_one, List.map_replicate]
    unfold ints
    clear h
    induction n with
    | zero => rfl
    | succ n ih => rw [List.replicate_succ, List.replicate_succ, List.flatMap_cons, ← ih (by omega)]; rfl
  rw [← e]
  exact Sl.fresh w _ 3 1 n (by rw [← Array.length_toList, Go.toList_madeCells_one]; simp)
theorem nmachT_at {B : Nat} {w : World} {Cb T n : Nat} {pv : List (Nat × Nat)} {cv tv : Nat → Value} {av : Nat → List SV} (h : MN B w 2 1 Cb T cv (fun i => [nputCode, nscanCode n].getD i []) tv (n1 (ncalls pv ++ [⟨1, []⟩])) av) (h1 : 1 ≤ n) (h4 : n ≤ 4) (hl : pv.length = 8) : MachAt w (some ⟨Cb, 0, none⟩) 2 (some ⟨T, 0, none⟩) 1 (nmachT n pv) := by
  refine h.at_ rfl rfl (fun i hi => ?_) (fun j hj => ?_)
  · rcases (show i = 0 ∨ i = 1 by omega) with rfl | rfl
    · exact ⟨by show nputCode.length ≤ 200; decide, nput_sh⟩
    · exact ⟨by show (nscanCode n).length ≤ 200; rw [nscan_len h1 h4]; omega, nscan_sh h1 h4⟩
  · obtain rfl : j = 0 := by omega
    unfold n1
    rw [if_pos rfl]
    refine ⟨by unfold ncalls; rw [List.length_append, List.length_cons, List.length_map, hl]; decide, fun c hc => ?_⟩
    rcases List.mem_append.1 hc with hc | hc
    · unfold ncalls at hc
      rcases List.mem_cons.1 hc with rfl | hc
      · exact ⟨by decide, by decide⟩
      · obtain ⟨x, _, rfl⟩ := List.mem_map.1 hc
        exact ⟨Nat.le_of_ble_eq_true rfl, Nat.le_of_ble_eq_true rfl⟩
    · rw [List.mem_singleton.1 hc]; exact ⟨by decide, by decide⟩
set_option maxHeartbeats 8000000 in
set_option maxRecDepth 100000 in
theorem law_snapTells (xi : Int) (D : Option Addr) (r s : Nat) (cs : List Int) (E : Option Addr) (r2 s2 : Nat) (es : List Int) (w : World) (ha : -9223372036854775808 ≤ xi) (ha1 : xi ≤ 9223372036854775807)
    (hr : r ≤ s) (hs : s ≤ maxLen) (_ : s * 8 ≤ 140737488351232) (hD : Sl w 1 D r (ints cs)) (hcs : ∀ x ∈ cs, -9223372036854775808 ≤ x ∧ x ≤ 9223372036854775807)
    (hr2 : r2 ≤ s2) (hs2 : s2 ≤ maxLen) (_ : s2 * 8 ≤ 140737488351232) (hE : Sl w 1 E r2 (ints es)) (hes : ∀ x ∈ es, -9223372036854775808 ≤ x ∧ x ≤ 9223372036854775807) (hT : STab w) :
    Calls Tryd.prog 9 #[.int .i64 xi, .slice D r s, .slice E r2 s2] w fun e w' => e = .returned (.bool true) ∧ Below w.heap.size w w' := by
  have HT := hid hT; have HDD := hid hD; have HCS := hid hcs; have HEE := hid hE; have HES := hid hes
  have HRL := hid (show cs.length = r from hD.leni)
  have HRL2 := hid (show es.length = r2 from hE.leni)
  clear hT hD hcs hE hes
  have hrl : r ≤ 9223372036854775807 := by unfold maxLen at hs; omega
  have hrl2 : r2 ≤ 9223372036854775807 := by unfold maxLen at hs2; omega
  clear hs hs2
  have m1 := pk_lt xi 4 (by decide)
  obtain ⟨n, hR⟩ : ∃ n : Nat, wrap64 (1 + (pk xi 4 : Int)) = (n : Int) ∧ n = 1 + pk xi 4 := ⟨1 + pk xi 4, by rw [wrap_mid (by omega) (by omega)]; omega, rfl⟩
  have h1 : 1 ≤ n := by omega
  have h6 : n ≤ 4 := by omega
  have HR1 := hid hR.1
  clear hR m1
  go_enter Tryd.func9, Tryd.ntmps9
  go_wp2_with fail
  refine (picked xi 4 w (by decide) ha ha1 (by decide)).mono ?_
  rintro e w' ⟨rfl, rfl⟩
  go_wp2_with fail
  try rw [HR1.out]
  refine (snap_machine none 0 0 n [] w h1 h6 (by decide) ⟨rfl, fun h => absurd h (by decide)⟩ (by intro x hx; cases hx) HT.out).mono ?_
  rintro e w1 hp1
  obtain ⟨AW, cW, Cb, T0, cv, tv0, av0, rfl, hW, hM, b1⟩ := hp1
  have HM := hid hM; have B1 := hid b1; have HW := hid hW
  clear hM b1 hW ha ha1
  obtain ⟨X, hX⟩ : ∃ X, w1.heap.size = X := ⟨_, rfl⟩
  go_upto_region 5 with fail
  have HX0 := hid (blkN w1 29 #[.slice AW n cW, .slice (some ⟨Cb, 0, none⟩) 2 2, .slice (some ⟨T0, 0, none⟩) 4 4] X hX)
  have BA := hid (bgo B1.out (bnew (bnil w1) (.cells #[.slice AW n cW, .slice (some ⟨Cb, 0, none⟩) 2 2, .slice (some ⟨T0, 0, none⟩) 4 4] 29)))
  have HM0 := hid (HM.out.below (bnew (bnil w1) (.cells #[.slice AW n cW, .slice (some ⟨Cb, 0, none⟩) 2 2, .slice (some ⟨T0, 0, none⟩) 4 4] 29)))
  have HWA := hid (own_below HW.out (bnew (bnil w1) (.cells #[.slice AW n cW, .slice (some ⟨Cb, 0, none⟩) 2 2, .slice (some ⟨T0, 0, none⟩) 4 4] 29)))
  have hXw : w.heap.size ≤ X := by rw [← hX]; exact B1.out.size
  try rw [hX]
  generalize World.alloc w1 _ = wA at *
  clear hX HM HW B1
  obtain ⟨Q, hQ⟩ : ∃ Q, wA.heap.size = Q := ⟨_, rfl⟩
  obtain ⟨T, hT⟩ : ∃ T, Q + 1 = T := ⟨_, rfl⟩
  have HX2 := hid ((HX0.out.alloc (.cells #[.int .i64 1, .slice none 0 0] 35)).alloc (.cells #[.slice (some ⟨Q, 0, none⟩) 1 1] 33))
  have z2 := HX2.out.frozen 2
  have y2 : ((wA.alloc (.cells #[.int .i64 1, .slice none 0 0] 35)).alloc (.cells #[.slice (some ⟨Q, 0, none⟩) 1 1] 33)).cell? ⟨X, 2, none⟩ = some (.slice (some ⟨T0, 0, none⟩) 4 4) := HX2.out.cell 2
  have HQB := hid ((blkN wA 35 #[.int .i64 1, .slice none 0 0] Q hQ).alloc (.cells #[.slice (some ⟨Q, 0, none⟩) 1 1] 33))
  have HTB := hid (blkN (wA.alloc (.cells #[.int .i64 1, .slice none 0 0] 35)) 33 #[.slice (some ⟨Q, 0, none⟩) 1 1] T (by rw [World.size_alloc, hQ, hT]))
  have hQw : w.heap.size ≤ Q := by rw [← hQ]; exact BA.out.size
  go_upto_region 6 with fail
  try rw [hT]
  obtain ⟨wE, hwE⟩ : ∃ wE, World.setCell ((wA.alloc (.cells #[.int .i64 1, .slice none 0 0] 35)).alloc (.cells #[.slice (some ⟨Q, 0, none⟩) 1 1] 33)) ⟨X, 2, none⟩ (.slice (some ⟨T, 0, none⟩) 1 1) = wE := ⟨_, rfl⟩
  rw [hwE]
  have BU := hid (show SBn w wE X Cb T 2 1 (.slice AW n cW) (List.replicate n (0 : Int)) cv (fun i => [nputCode, nscanCode n].getD i []) (fun _ => .slice (some ⟨Q, 0, none⟩) 1 1) (n1 (ncalls [])) (fun _ => [⟨none, 0, 0⟩]) from by
    have hC : Chg (fun q => q = X) ((wA.alloc (.cells #[.int .i64 1, .slice none 0 0] 35)).alloc (.cells #[.slice (some ⟨Q, 0, none⟩) 1 1] 33)) wE := by rw [← hwE]; exact (Chg.refl (fun q => q = X) _).setCell (p := ⟨X, 2, none⟩) (fun _ => rfl) _
    have bA := bnew (bnew (bnil wA) (.cells #[.int .i64 1, .slice none 0 0] 35)) (.cells #[.slice (some ⟨Q, 0, none⟩) 1 1] 33)
    have ok : ∀ {B e sz n' : Nat} {v : Value} {xs : List Value}, e ≠ 29 → wA.ownsRow B e sz v n' xs → wE.ownsRow B e sz v n' xs := fun h1 h2 => own_chg (own_below h2 bA) hC fun q hq e => own_ne_blk (own_below h2 bA) HX2.out h1 (by rw [hq, e])
    have bk : ∀ {g t : Nat} {cs : Array Value}, t ≠ 29 → Blk ((wA.alloc (.cells #[.int .i64 1, .slice none 0 0] 35)).alloc (.cells #[.slice (some ⟨Q, 0, none⟩) 1 1] 33)) g t cs → Blk wE g t cs := fun h1 h2 => hC.blk h2 fun e => by subst e; exact h1 (blk_ty h2 HX2.out)
    refine ⟨?_, ?_, ?_, ?_⟩
    · rw [← hwE]; exact (bgo BA.out bA).setCell (p := ⟨X, 2, none⟩) hXw _
    · rw [← hwE]; exact HX2.out.set_ 2 _
    · rw [List.length_replicate]; exact ok (by decide) HWA.out
    · refine ⟨HM0.out.geC, by omega, bk (by decide) ((HM0.out.cb.alloc _).alloc _), bk (by decide) HTB.out, fun i hi => ok (by decide) (HM0.out.os i hi), fun j hj => ?_, fun i j hi hj h => absurd h (by omega)⟩
      obtain rfl : j = 0 := by omega
      refine ⟨rfl, ⟨rfl, .inr ⟨Q, 1, #[.int .i64 1, .slice none 0 0], rfl, hQw, bk (by decide) HQB.out, Nat.le_refl _, by unfold maxLen; omega, rfl, rfl⟩⟩, fun k c v hk hv => ?_⟩
      match k, hk, hv with
      | 0, hk, hv => injection hk with hk; injection hv with hv; subst hk hv; exact own0 _ _ _ 1
      | k + 1, hk, hv => cases hk)
  clear hwE HTB HQB y2 z2 HX2 HX0 HM0 HWA hXw hQ hT hQw
  obtain ⟨qs, hqs, hmk⟩ := mk_intsL wE n (by omega)
  have hq4 : qs = intA (nwant n []) := by
    apply Array.ext'
    rw [hqs, intA_ints]
    rfl
  subst hq4
  clear hqs
  obtain ⟨Cn, hCn⟩ : ∃ Cn, wE.heap.size = Cn := ⟨_, rfl⟩
  go_upto_region 7 with fail
  have hb' := bnew (bnil wE) (.cells (intA (nwant n [])) 3)
  obtain ⟨wC, hwC⟩ : ∃ wC, wE.alloc (.cells (intA (nwant n [])) 3) = wC := ⟨_, rfl⟩
  have HCN := hid (show Blk wC Cn 3 (intA (nwant n [])) by rw [← hwC]; exact blkN wE 3 _ Cn hCn)
  rw [hwC] at hb' ⊢
  have HNW := hid (show (Value.slice AW n cW).ownBlock ≠ some Cn from fun e => by
    have h := BU.out.own
    have := (own_ge h Cn e).2
    omega)
  have HGE := hid (show w.heap.size ≤ Cn by rw [← hCn]; exact BU.out.below.size)
  have BU2 := hid (BU.out.step hb')
  have HNA := hid (show ∀ j, j < 1 → ∀ a ∈ (fun _ => [⟨none, 0, 0⟩] : Nat → List SV) j, a.v.ownBlock ≠ some Cn from fun j _ a ha => by rw [List.mem_singleton.1 ha]; intro h; cases h)
  try rw [hCn]
  clear hwC hb' BU hmk hCn
  go_wp2_with fail
  go_loopw [11] (fun v wx => ∃ (i : Nat) (tv : Nat → Value) (av : Nat → List SV) (pv : List (Nat × Nat)), i ≤ 8 ∧ v = .int .i64 i ∧ Hid (pv.length = i) ∧ Hid (∀ x ∈ pv, x.1 < n ∧ x.2 < 1048576) ∧ Hid (SBn w wx X Cb T 2 1 (.slice AW n cW) (List.replicate n (0 : Int)) cv (fun i => [nputCode, nscanCode n].getD i []) tv (n1 (ncalls pv)) av) ∧ Hid (Blk wx Cn 3 (intA (nwant n pv))) ∧ Hid (∀ j, j < 1 → ∀ a ∈ av j, a.v.ownBlock ≠ some Cn)) (fun v _ => 8 - (intOf v).toNat)
  case atStart => exact ⟨0, _, _, [], Nat.zero_le _, rfl, hid rfl, hid (by intro x hx; cases hx), BU2, HCN, HNA⟩
  case round =>
    clear BU2 HCN HNA
    obtain ⟨i, tv, av, pv, hi8, rfl, HPL, HPV, HX, HCN, HNA⟩ := hrel
    by_cases hlt : i < 8
    · have i1 : (i : Int) < 8 := by omega
      obtain ⟨pp, hpp⟩ : ∃ p : Nat, (if i < cs.length then pk (cs.getD i 0) (n : Int) else 0) = p := ⟨_, rfl⟩
      have hbpp : (pp : Int) < (n : Int) := by
        rw [← hpp]
        split
        · exact pk_lt _ _ (by omega)
        · show ((0 : Nat) : Int) < _; omega
      have Hpp := hid hpp
      have HBpp := hid hbpp
      clear hpp hbpp
      go_upto_if 39 with fail
      go_cut [12] (fun v wx => v = .int .i64 (pp : Int) ∧ wx = wr)
      case first =>
        by_cases h2 : i < r
        · have i3 : (i : Int) < (r : Int) := by omega
          have hkl : i < cs.length := by rw [HRL.out]; exact h2
          obtain ⟨x, hx⟩ : ∃ x, cs[i]? = some x := ⟨_, List.getElem?_eq_getElem hkl⟩
          obtain ⟨ad, e, hc⟩ := HDD.out.2 (by omega)
          subst e
          have hh := flatMap_at gI 1 (fun _ => rfl) cs i 0 x hx (by decide)
          rw [Nat.mul_one, Nat.add_zero] at hh
          have cx := cell_below HX.out.below (hc i _ (by rw [show ints cs = cs.flatMap gI from rfl] at *; rw [hh]; rfl))
          have HXB := hid (HCS.out x (List.mem_of_getElem? hx))
          have hpk : pk x (n : Int) = pp := by
            have h := Hpp.out
            rw [if_pos hkl, List.getD_eq_getElem?_getD, hx] at h
            exact h
          have HPK := hid hpk
          clear hc hh hx hkl hpk
          go_wp2_with fail
          refine (picked x (n : Int) wr (by omega) HXB.out.1 HXB.out.2 (by omega)).mono ?_
          rintro e w' ⟨rfl, rfl⟩
          rw [HPK.out]
          go_wp2_with fail
          go_meet
          exact ⟨rfl, rfl⟩
        · have i3 : ¬ (i : Int) < (r : Int) := by omega
          have hk0 : pp = 0 := by rw [← Hpp.out, if_neg (by rw [HRL.out]; exact h2)]
          subst hk0
          go_wp2_with fail
          go_meet
          exact ⟨rfl, rfl⟩
      case rest =>
        obtain ⟨rfl, hwc⟩ := hcut
        try rw [hwc]
        clear hwc
        obtain ⟨vv, hvv⟩ : ∃ p : Nat, (if i < es.length then pk (es.getD i 0) 1048576 else 5) = p := ⟨_, rfl⟩
        have hbvv : (vv : Int) < 1048576 := by
          rw [← hvv]
          split
          · exact pk_lt _ _ (by omega)
          · show ((5 : Nat) : Int) < _; omega
        have Hvv := hid hvv
        have HBvv := hid (show ∃ q : Nat, q = vv ∧ q < 1048576 from ⟨vv, rfl, by omega⟩)
        clear hvv hbvv
        go_upto_if 49 with fail
        go_cut [13] (fun v wx => v = .int .i64 (vv : Int) ∧ wx = wr)
        case first =>
          by_cases h2 : i < r2
          · have i3 : (i : Int) < (r2 : Int) := by omega
            have hkl : i < es.length := by rw [HRL2.out]; exact h2
            obtain ⟨x, hx⟩ : ∃ x, es[i]? = some x := ⟨_, List.getElem?_eq_getElem hkl⟩
            obtain ⟨ad, e, hc⟩ := HEE.out.2 (by omega)
            subst e
            have hh := flatMap_at gI 1 (fun _ => rfl) es i 0 x hx (by decide)
            rw [Nat.mul_one, Nat.add_zero] at hh
            have cx := cell_below HX.out.below (hc i _ (by rw [show ints es = es.flatMap gI from rfl] at *; rw [hh]; rfl))
            have HXB := hid (HES.out x (List.mem_of_getElem? hx))
            have hpk : pk x 1048576 = vv := by
              have h := Hvv.out
              rw [if_pos hkl, List.getD_eq_getElem?_getD, hx] at h
              exact h
            have HPK := hid hpk
            clear hc hh hx hkl hpk
            go_wp2_with fail
            refine (picked x 1048576 wr (by omega) HXB.out.1 HXB.out.2 (by omega)).mono ?_
            rintro e w' ⟨rfl, rfl⟩
            rw [HPK.out]
            go_wp2_with fail
            go_meet
            exact ⟨rfl, rfl⟩
          · have i3 : ¬ (i : Int) < (r2 : Int) := by omega
            have hk0 : vv = 5 := by rw [← Hvv.out, if_neg (by rw [HRL2.out]; exact h2)]
            subst hk0
            go_wp2_with fail
            go_meet
            exact ⟨rfl, rfl⟩
        case rest =>
          obtain ⟨rfl, hwc⟩ := hcut
          try rw [hwc]
          clear hwc
          have hpn : pp < n := by have := HBpp.out; omega
          have ipn : (pp : Int) < (n : Int) := by omega
          have hcell : wr.cell? ⟨Cn, pp, none⟩ = some (.int .i64 (vget (nwant n pv) pp)) := by rw [HCN.out.cell pp, intA_at (by rw [nwant_len]; exact hpn)]
          have hfr := HCN.out.frozen pp
          have HPV2 := hid (show ∀ x ∈ pv ++ [(pp, vv)], x.1 < n ∧ x.2 < 1048576 from fun x hx => by
            rcases List.mem_append.1 hx with hx | hx
            · exact HPV.out x hx
            · rw [List.mem_singleton.1 hx]; exact ⟨hpn, by obtain ⟨q, h, h'⟩ := HBvv.out; show vv < 1048576; omega⟩)
          have HCN2 := hid (show Blk (wr.setCell ⟨Cn, pp, none⟩ (.int .i64 (vv : Int))) Cn 3 (intA (nwant n (pv ++ [(pp, vv)]))) by
            have h := HCN.out.set_ pp (.int .i64 (vv : Int))
            rw [intA_set] at h
            rw [nwant_snoc]
            exact h)
          have HX2 := hid (HX.out.store (p := pp) HCN.out HGE.out HNW.out HNA.out (.int .i64 (vv : Int)))
          go_upto_region 17 with fail
          obtain ⟨wS, hwS⟩ : ∃ wS, wr.setCell ⟨Cn, pp, none⟩ (.int .i64 (vv : Int)) = wS := ⟨_, rfl⟩
          rw [hwS] at HCN2 HX2 ⊢
          clear hwS hcell hfr HCN HX
          have HCN := HCN2; have HX := HX2
          clear HCN2 HX2
          have HLN := hid (show (n1 (ncalls pv) 0).length ≤ 20 by unfold n1 ncalls; rw [if_pos rfl, List.length_cons, List.length_map, HPL.out]; omega)
          have HLTC := hid HCN.out.lt
          have HOF := hid (show ∀ (LIT : Obj) (k' : Nat) (c : VCall) (a : SV), ([⟨0, [(pp : Int), (vv : Int)]⟩] : List VCall)[k']? = some c → ([⟨some ⟨wS.heap.size, 0, none⟩, 2, 2⟩] : List SV)[k']? = some a → (((wS.alloc (.cells #[.int .i64 (pp : Int), .int .i64 (vv : Int)] 3)).alloc LIT).drew).ownsRow w.heap.size 3 1 a.v c.args.length (c.args.flatMap gI) from by
            intro LIT k' c a hc ha
            have hge : w.heap.size ≤ wS.heap.size := HX.out.below.size
            match k', hc, ha with
            | 0, hc, ha =>
              injection hc with hc; injection ha with ha; subst hc ha
              have hB : Blk (((wS.alloc (.cells #[.int .i64 (pp : Int), .int .i64 (vv : Int)] 3)).alloc LIT).drew) (wS.heap.size) 3 #[.int .i64 (pp : Int), .int .i64 (vv : Int)] := (Blk.new wS _ _).alloc _
              exact ⟨rfl, .inr ⟨wS.heap.size, 2, #[.int .i64 (pp : Int), .int .i64 (vv : Int)], rfl, by omega, hB, Nat.le_refl _, by unfold maxLen; omega, rfl, rfl⟩⟩
            | k + 1, hc, ha => cases hc)
          obtain ⟨Aj, cj, hAj, HR0⟩ := HX.out.row (j := 0) (by omega)
          obtain ⟨L, hL⟩ : ∃ L, ((n1 (ncalls pv)) 0).length = L := ⟨_, rfl⟩
          rw [hL] at hAj HR0
          have hL18 : L ≤ 20 := by rw [← hL]; exact HLN.out
          obtain ⟨y, hy⟩ : ∃ y, ((n1 (ncalls pv)) 0).zip (av 0) ++ [((⟨0, [(pp : Int), (vv : Int)]⟩ : VCall), (⟨some ⟨wS.heap.size, 0, none⟩, 2, 2⟩ : SV))] = y := ⟨_, rfl⟩
          have HYE := hid hy
          have HYL := hid (show y.length = L + 1 by rw [← hy, List.length_append, HR0.len]; rfl)
          have HR := hid HR0
          have HAJ := hid hAj
          have c2x := HR.out.c2; have c3 := HR.out.c3; have f3 := HR.out.f3; have hcj := HR.out.hcj; have hcm := HR.out.hcm
          unfold maxLen at hcm
          clear hy HR0 hAj hL
          have ltT := World.block_lt_of_cell? wS _ c3
          have ltX := World.block_lt_of_cell? wS _ c2x
          have ltT1 : T < wS.heap.size + 1 := Nat.lt_succ_of_lt ltT
          have hq3 : ∀ o1 o2 : Obj, ((wS.alloc o1).alloc o2).cell? ⟨T, 0, none⟩ = some (.slice Aj L cj) := fun o1 o2 => cell_below (bnew (bnew (bnil wS) o1) o2) c3
          go_upto_region 17 with fail
          refine wp_region_held_drew (S := (fun w' => w'.cell? ⟨X, 2, none⟩ = some (.slice (some ⟨T, 0, none⟩) 1 1) ∧ w'.frozen? ⟨T, 0, none⟩ = false)) (by kernel_rfl) ?_ (fun hHeld => ?_)
          · (try dsimp only); (first | assumption | exact ⟨c2x, f3⟩ | exact HZ.1 | exact HZ.2.2 _ | (refine sees2f ?_ c2x c3 f3; (repeat (first | exact bnil _ | refine Below.drew ?_ | refine bnew ?_ _))))
          refine wpAnyH_take (i := 0) (oi := ⟨some 59, _, _, _, _, _⟩) (v := ?_) rfl (by kernel_rfl) (by kernel_rfl) (by kernel_rfl) (fun _ _ _ h => h) (Or.inl ⟨by rfl, ?_⟩) (by assumption) ?_
          rotate_left
          · intro w hSw; (try dsimp only at hSw); go_simp <;> with_reducible rfl
          try simp only [Act.put, List.setIfInBounds_toArray, List.set_cons_zero, List.set_cons_succ]
          refine wpAnyH_take (i := 1) (oi := ⟨some 60, _, _, _, _, _⟩) (v := ?_) rfl (by kernel_rfl) (by kernel_rfl) (by kernel_rfl) (fun _ _ _ h => h) (Or.inl ⟨by rfl, ?_⟩) (by assumption) ?_
          rotate_left
          · intro w hSw; (try dsimp only at hSw); go_simp <;> with_reducible rfl
          try simp only [Act.put, List.setIfInBounds_toArray, List.set_cons_zero, List.set_cons_succ]
          refine wpAnyH_take (i := 2) (oi := ⟨some 61, _, _, _, _, _⟩) (v := ?_) rfl (by kernel_rfl) (by kernel_rfl) (by kernel_rfl) (fun _ _ _ h => h) (Or.inl ⟨by rfl, ?_⟩) (by assumption) ?_
          rotate_left
          · intro w hSw; (try dsimp only at hSw); go_simp <;> with_reducible rfl
          try simp only [Act.put, List.setIfInBounds_toArray, List.set_cons_zero, List.set_cons_succ]
          refine wpAnyH_take (i := 3) (oi := ⟨some 62, _, _, _, _, _⟩) (v := ?_) rfl (by kernel_rfl) (by kernel_rfl) (by kernel_rfl) (fun _ _ _ h => h) (Or.inl ⟨by rfl, ?_⟩) (by assumption) ?_
          rotate_left
          · intro w hSw; (try dsimp only at hSw); go_simp <;> with_reducible rfl
          try simp only [Act.put, List.setIfInBounds_toArray, List.set_cons_zero, List.set_cons_succ]
          refine wpAnyH_take (i := 4) (oi := ⟨some 63, _, _, _, _, _⟩) (v := ?_) rfl (by kernel_rfl) (by kernel_rfl) (by kernel_rfl) (fun _ _ _ h => h) (Or.inl ⟨by rfl, ?_⟩) (by assumption) ?_
          rotate_left
          · intro w hSw; (try dsimp only at hSw); go_simp <;> with_reducible rfl
          try simp only [Act.put, List.setIfInBounds_toArray, List.set_cons_zero, List.set_cons_succ]
          refine wpAnyH_take (i := 6) (oi := ⟨some 65, _, _, _, _, _⟩) (v := ?_) rfl (by kernel_rfl) (by kernel_rfl) (by kernel_rfl) (fun _ _ _ h => h) (Or.inl ⟨by rfl, ?_⟩) (by assumption) ?_
          rotate_left
          · intro w hSw; (try dsimp only at hSw); go_simp <;> with_reducible rfl
          try simp only [Act.put, List.setIfInBounds_toArray, List.set_cons_zero, List.set_cons_succ]
          refine wpAnyH_take (i := 7) (oi := ⟨some 66, _, _, _, _, _⟩) (v := ?_) rfl (by kernel_rfl) (by kernel_rfl) (by kernel_rfl) (fun _ _ _ h => h) (Or.inl ⟨by rfl, ?_⟩) (by assumption) ?_
          rotate_left
          · intro w hSw; (try dsimp only at hSw); go_simp <;> with_reducible rfl
          try simp only [Act.put, List.setIfInBounds_toArray, List.set_cons_zero, List.set_cons_succ]
          refine wpAnyH_ready (rs := [5, 8]) (by kernel_rfl) (by simp) ?_
          refine AllReadyH.cons (o := ⟨some 64, _, _, _, _, _⟩) rfl (fun K hK => ?_) ?_
          go_simp
          refine hK.out _ _ ?_ (fun hHeld => ?_)
          · (try dsimp only); (first | assumption | exact ⟨c2x, f3⟩ | exact HZ.1 | exact HZ.2.2 _ | (refine sees2f ?_ c2x c3 f3; (repeat (first | exact bnil _ | refine Below.drew ?_ | refine bnew ?_ _))))
          clear hK K
          try simp only [Act.put, List.setIfInBounds_toArray, List.set_cons_zero, List.set_cons_succ]
          refine wpAnyH_ready (rs := [8]) (by kernel_rfl) (by simp) ?_
          refine AllReadyH.cons (o := ⟨some 67, _, _, _, _, _⟩) rfl (fun K hK => ?_) AllReadyH.nil
          go_simp
          refine hK.out _ _ ?_ (fun hHeld => ?_)
          · (try dsimp only); (first | assumption | exact ⟨c2x, f3⟩ | exact HZ.1 | exact HZ.2.2 _ | (refine sees2f ?_ c2x c3 f3; (repeat (first | exact bnil _ | refine Below.drew ?_ | refine bnew ?_ _))))
          clear hK K
          try simp only [Act.put, List.setIfInBounds_toArray, List.set_cons_zero, List.set_cons_succ]
          refine wpAnyH_take (i := 9) (oi := ⟨some 68, _, _, _, _, _⟩) (v := ?_) rfl (by kernel_rfl) (by kernel_rfl) (by kernel_rfl) (fun _ _ _ h => h) (Or.inl ⟨by rfl, ?_⟩) (by assumption) ?_
          rotate_left
          · intro w hSw; (try dsimp only at hSw); go_simp <;> with_reducible rfl
          try simp only [Act.put, List.setIfInBounds_toArray, List.set_cons_zero, List.set_cons_succ]
          refine wpAnyH_ready (rs := [10]) (by kernel_rfl) (by simp) ?_
          refine AllReadyH.cons (o := ⟨some 69, _, _, _, _, _⟩) rfl (fun K hK => ?_) AllReadyH.nil
          go_simp
          refine hK.out _ _ ?_ (fun hHeld => ?_)
          · (try dsimp only); (first | assumption | exact ⟨c2x, f3⟩ | exact HZ.1 | exact HZ.2.2 _ | (refine sees2f ?_ c2x c3 f3; (repeat (first | exact bnil _ | refine Below.drew ?_ | refine bnew ?_ _))))
          clear hK K
          try simp only [Act.put, List.setIfInBounds_toArray, List.set_cons_zero, List.set_cons_succ]
          refine wpAnyH_ready (rs := [11]) (by kernel_rfl) (by simp) ?_
          refine AllReadyH.cons (o := ⟨some 70, _, _, _, _, _⟩) rfl (fun K hK => ?_) AllReadyH.nil
          (refine step_appC elmCN gS_one rfl (.tmp 64) (.tmp 69) rfl (.slice Aj L cj) (((n1 (ncalls pv)) 0).zip (av 0)) rfl (HR.out.row _ (bnew (bnew (bnil _) _) _).drew) [((⟨0, [(pp : Int), (vv : Int)]⟩ : VCall), (⟨some ⟨wS.heap.size, 0, none⟩, 2, 2⟩ : SV))] y HYE rfl (Sl.drew (Sl.fresh' _ #[_, _] 35 2 1 _ (by simp) rfl)) rfl (by rw [HYL.out]; simp only [maxLen]; omega) (by rw [HYL.out]; omega) (Nat.le_trans HR.out.size (bnew (bnew (bnil _) _) _).drew.size) ?_; intro E6 c6 w6 hc6 hc7 HN6 HG6 HO6; have HZ := HR.out.grow _ w6 (bnew (bnew (bnil _) _) _).drew HG6.out; have HIZ := hid (HX.out.ints (j := 0) (by omega) (bnew (bnew (bnil _) _) _).drew (by rw [HAJ.out]; exact HG6.out) HCN.out))
          refine hK.out _ _ ?_ (fun hHeld => ?_)
          · (try dsimp only); (first | assumption | exact ⟨c2x, f3⟩ | exact HZ.1 | exact HZ.2.2 _ | (refine sees2f ?_ c2x c3 f3; (repeat (first | exact bnil _ | refine Below.drew ?_ | refine bnew ?_ _))))
          clear hK K
          try simp only [Act.put, List.setIfInBounds_toArray, List.set_cons_zero, List.set_cons_succ]
          refine wpAnyH_take (i := 12) (oi := ⟨some 71, _, _, _, _, _⟩) (v := ?_) rfl (by kernel_rfl) (by kernel_rfl) (by kernel_rfl) (fun _ _ _ h => h) (Or.inl ⟨by rfl, ?_⟩) (by assumption) ?_
          rotate_left
          · intro w hSw; (try dsimp only at hSw); go_simp <;> with_reducible rfl
          try simp only [Act.put, List.setIfInBounds_toArray, List.set_cons_zero, List.set_cons_succ]
          refine wpAnyH_ready (rs := [13]) (by kernel_rfl) (by simp) ?_
          refine AllReadyH.cons (o := ⟨none, _, _, _, _, _⟩) rfl (fun K hK => ?_) AllReadyH.nil
          go_simp
          refine hK.out _ _ ?_ (fun hHeld => ?_)
          · (try dsimp only); (first | assumption | exact ⟨c2x, f3⟩ | exact HZ.1 | exact HZ.2.2 _ | (refine sees2f ?_ c2x c3 f3; (repeat (first | exact bnil _ | refine Below.drew ?_ | refine bnew ?_ _))))
          clear hK K
          try dsimp only [Act.put]
          refine wpAnyH_done (by kernel_rfl) ?_ _
          rotate_left
          refine AllReadyH.cons (o := ⟨some 67, _, _, _, _, _⟩) rfl (fun K hK => ?_) AllReadyH.nil
          go_simp
          refine hK.out _ _ ?_ (fun hHeld => ?_)
          · (try dsimp only); (first | assumption | exact ⟨c2x, f3⟩ | exact HZ.1 | exact HZ.2.2 _ | (refine sees2f ?_ c2x c3 f3; (repeat (first | exact bnil _ | refine Below.drew ?_ | refine bnew ?_ _))))
          clear hK K
          try simp only [Act.put, List.setIfInBounds_toArray, List.set_cons_zero, List.set_cons_succ]
          refine wpAnyH_take (i := 9) (oi := ⟨some 68, _, _, _, _, _⟩) (v := ?_) rfl (by kernel_rfl) (by kernel_rfl) (by kernel_rfl) (fun _ _ _ h => h) (Or.inl ⟨by rfl, ?_⟩) (by assumption) ?_
          rotate_left
          · intro w hSw; (try dsimp only at hSw); go_simp <;> with_reducible rfl
          try simp only [Act.put, List.setIfInBounds_toArray, List.set_cons_zero, List.set_cons_succ]
          refine wpAnyH_ready (rs := [5, 10]) (by kernel_rfl) (by simp) ?_
          refine AllReadyH.cons (o := ⟨some 64, _, _, _, _, _⟩) rfl (fun K hK => ?_) ?_
          go_simp
          refine hK.out _ _ ?_ (fun hHeld => ?_)
          · (try dsimp only); (first | assumption | exact ⟨c2x, f3⟩ | exact HZ.1 | exact HZ.2.2 _ | (refine sees2f ?_ c2x c3 f3; (repeat (first | exact bnil _ | refine Below.drew ?_ | refine bnew ?_ _))))
          clear hK K
          try simp only [Act.put, List.setIfInBounds_toArray, List.set_cons_zero, List.set_cons_succ]
          refine wpAnyH_ready (rs := [10]) (by kernel_rfl) (by simp) ?_
          refine AllReadyH.cons (o := ⟨some 69, _, _, _, _, _⟩) rfl (fun K hK => ?_) AllReadyH.nil
          go_simp
          refine hK.out _ _ ?_ (fun hHeld => ?_)
          · (try dsimp only); (first | assumption | exact ⟨c2x, f3⟩ | exact HZ.1 | exact HZ.2.2 _ | (refine sees2f ?_ c2x c3 f3; (repeat (first | exact bnil _ | refine Below.drew ?_ | refine bnew ?_ _))))
          clear hK K
          try simp only [Act.put, List.setIfInBounds_toArray, List.set_cons_zero, List.set_cons_succ]
          refine wpAnyH_ready (rs := [11]) (by kernel_rfl) (by simp) ?_
          refine AllReadyH.cons (o := ⟨some 70, _, _, _, _, _⟩) rfl (fun K hK => ?_) AllReadyH.nil
          (refine step_appC elmCN gS_one rfl (.tmp 64) (.tmp 69) rfl (.slice Aj L cj) (((n1 (ncalls pv)) 0).zip (av 0)) rfl (HR.out.row _ (bnew (bnew (bnil _) _) _).drew) [((⟨0, [(pp : Int), (vv : Int)]⟩ : VCall), (⟨some ⟨wS.heap.size, 0, none⟩, 2, 2⟩ : SV))] y HYE rfl (Sl.drew (Sl.fresh' _ #[_, _] 35 2 1 _ (by simp) rfl)) rfl (by rw [HYL.out]; simp only [maxLen]; omega) (by rw [HYL.out]; omega) (Nat.le_trans HR.out.size (bnew (bnew (bnil _) _) _).drew.size) ?_; intro E6 c6 w6 hc6 hc7 HN6 HG6 HO6; have HZ := HR.out.grow _ w6 (bnew (bnew (bnil _) _) _).drew HG6.out; have HIZ := hid (HX.out.ints (j := 0) (by omega) (bnew (bnew (bnil _) _) _).drew (by rw [HAJ.out]; exact HG6.out) HCN.out))
          refine hK.out _ _ ?_ (fun hHeld => ?_)
          · (try dsimp only); (first | assumption | exact ⟨c2x, f3⟩ | exact HZ.1 | exact HZ.2.2 _ | (refine sees2f ?_ c2x c3 f3; (repeat (first | exact bnil _ | refine Below.drew ?_ | refine bnew ?_ _))))
          clear hK K
          try simp only [Act.put, List.setIfInBounds_toArray, List.set_cons_zero, List.set_cons_succ]
          refine wpAnyH_take (i := 12) (oi := ⟨some 71, _, _, _, _, _⟩) (v := ?_) rfl (by kernel_rfl) (by kernel_rfl) (by kernel_rfl) (fun _ _ _ h => h) (Or.inl ⟨by rfl, ?_⟩) (by assumption) ?_
          rotate_left
          · intro w hSw; (try dsimp only at hSw); go_simp <;> with_reducible rfl
          try simp only [Act.put, List.setIfInBounds_toArray, List.set_cons_zero, List.set_cons_succ]
          refine wpAnyH_ready (rs := [13]) (by kernel_rfl) (by simp) ?_
          refine AllReadyH.cons (o := ⟨none, _, _, _, _, _⟩) rfl (fun K hK => ?_) AllReadyH.nil
          go_simp
          refine hK.out _ _ ?_ (fun hHeld => ?_)
          · (try dsimp only); (first | assumption | exact ⟨c2x, f3⟩ | exact HZ.1 | exact HZ.2.2 _ | (refine sees2f ?_ c2x c3 f3; (repeat (first | exact bnil _ | refine Below.drew ?_ | refine bnew ?_ _))))
          clear hK K
          try dsimp only [Act.put]
          refine wpAnyH_done (by kernel_rfl) ?_ _
          rotate_left
          refine AllReadyH.cons (o := ⟨some 69, _, _, _, _, _⟩) rfl (fun K hK => ?_) AllReadyH.nil
          go_simp
          refine hK.out _ _ ?_ (fun hHeld => ?_)
          · (try dsimp only); (first | assumption | exact ⟨c2x, f3⟩ | exact HZ.1 | exact HZ.2.2 _ | (refine sees2f ?_ c2x c3 f3; (repeat (first | exact bnil _ | refine Below.drew ?_ | refine bnew ?_ _))))
          clear hK K
          try simp only [Act.put, List.setIfInBounds_toArray, List.set_cons_zero, List.set_cons_succ]
          refine wpAnyH_ready (rs := [5]) (by kernel_rfl) (by simp) ?_
          refine AllReadyH.cons (o := ⟨some 64, _, _, _, _, _⟩) rfl (fun K hK => ?_) AllReadyH.nil
          go_simp
          refine hK.out _ _ ?_ (fun hHeld => ?_)
          · (try dsimp only); (first | assumption | exact ⟨c2x, f3⟩ | exact HZ.1 | exact HZ.2.2 _ | (refine sees2f ?_ c2x c3 f3; (repeat (first | exact bnil _ | refine Below.drew ?_ | refine bnew ?_ _))))
          clear hK K
          try simp only [Act.put, List.setIfInBounds_toArray, List.set_cons_zero, List.set_cons_succ]
          refine wpAnyH_ready (rs := [11]) (by kernel_rfl) (by simp) ?_
          refine AllReadyH.cons (o := ⟨some 70, _, _, _, _, _⟩) rfl (fun K hK => ?_) AllReadyH.nil
          (refine step_appC elmCN gS_one rfl (.tmp 64) (.tmp 69) rfl (.slice Aj L cj) (((n1 (ncalls pv)) 0).zip (av 0)) rfl (HR.out.row _ (bnew (bnew (bnil _) _) _).drew) [((⟨0, [(pp : Int), (vv : Int)]⟩ : VCall), (⟨some ⟨wS.heap.size, 0, none⟩, 2, 2⟩ : SV))] y HYE rfl (Sl.drew (Sl.fresh' _ #[_, _] 35 2 1 _ (by simp) rfl)) rfl (by rw [HYL.out]; simp only [maxLen]; omega) (by rw [HYL.out]; omega) (Nat.le_trans HR.out.size (bnew (bnew (bnil _) _) _).drew.size) ?_; intro E6 c6 w6 hc6 hc7 HN6 HG6 HO6; have HZ := HR.out.grow _ w6 (bnew (bnew (bnil _) _) _).drew HG6.out; have HIZ := hid (HX.out.ints (j := 0) (by omega) (bnew (bnew (bnil _) _) _).drew (by rw [HAJ.out]; exact HG6.out) HCN.out))
          refine hK.out _ _ ?_ (fun hHeld => ?_)
          · (try dsimp only); (first | assumption | exact ⟨c2x, f3⟩ | exact HZ.1 | exact HZ.2.2 _ | (refine sees2f ?_ c2x c3 f3; (repeat (first | exact bnil _ | refine Below.drew ?_ | refine bnew ?_ _))))
          clear hK K
          try simp only [Act.put, List.setIfInBounds_toArray, List.set_cons_zero, List.set_cons_succ]
          refine wpAnyH_take (i := 12) (oi := ⟨some 71, _, _, _, _, _⟩) (v := ?_) rfl (by kernel_rfl) (by kernel_rfl) (by kernel_rfl) (fun _ _ _ h => h) (Or.inl ⟨by rfl, ?_⟩) (by assumption) ?_
          rotate_left
          · intro w hSw; (try dsimp only at hSw); go_simp <;> with_reducible rfl
          try simp only [Act.put, List.setIfInBounds_toArray, List.set_cons_zero, List.set_cons_succ]
          refine wpAnyH_ready (rs := [13]) (by kernel_rfl) (by simp) ?_
          refine AllReadyH.cons (o := ⟨none, _, _, _, _, _⟩) rfl (fun K hK => ?_) AllReadyH.nil
          go_simp
          refine hK.out _ _ ?_ (fun hHeld => ?_)
          · (try dsimp only); (first | assumption | exact ⟨c2x, f3⟩ | exact HZ.1 | exact HZ.2.2 _ | (refine sees2f ?_ c2x c3 f3; (repeat (first | exact bnil _ | refine Below.drew ?_ | refine bnew ?_ _))))
          clear hK K
          try dsimp only [Act.put]
          refine wpAnyH_done (by kernel_rfl) ?_ _
          rotate_left
          all_goals
            have HF := hid (HX.out.app (j := 0) (by omega) [⟨0, [(pp : Int), (vv : Int)]⟩] [⟨some ⟨wS.heap.size, 0, none⟩, 2, 2⟩] (bnew (bnew (bnil _) _) _).drew rfl (HOF.out _) HYE.out (by rw [HAJ.out]; exact HG6.out) (by rw [HAJ.out]; exact HO6.out) HN6.out)
            have HNA2 := hid (na_app1 HNA.out (a0 := ⟨some ⟨wS.heap.size, 0, none⟩, 2, 2⟩) (fun e => by have h : wS.heap.size = Cn := Option.some.inj (show some wS.heap.size = some Cn from e); have := HLTC.out; omega))
            go_wp2_with fail
            go_roundw
            case rel => exact ⟨i + 1, _, _, pv ++ [(pp, vv)], by omega, by go_num, hid (by rw [List.length_append, HPL.out]; rfl), HPV2, hid (by have h1 := HF.out; rw [n1_put] at h1; exact h1), hid (HIZ.out.2 _), HNA2⟩
            case measure => simp [intOf]; omega
    · obtain rfl : i = 8 := by omega
      have i1 : ¬ ((8 : Nat) : Int) < 8 := by omega
      have HLN := hid (show (n1 (ncalls pv) 0).length ≤ 20 by unfold n1 ncalls; rw [if_pos rfl, List.length_cons, List.length_map, HPL.out]; omega)
      go_upto_region 18 with fail
      go_cut [] (fun wx => ∃ (tv2 : Nat → Value) (av2 : Nat → List SV), Hid (SBn w wx X Cb T 2 1 (.slice AW n cW) (List.replicate n (0 : Int)) cv (fun i => [nputCode, nscanCode n].getD i []) tv2 (n1 (ncalls pv ++ [⟨1, []⟩])) av2) ∧ Hid (Blk wx Cn 3 (intA (nwant n pv))))
      case first =>
        have HOF := hid (show ∀ (LIT : Obj) (k' : Nat) (c : VCall) (a : SV), ([⟨1, []⟩] : List VCall)[k']? = some c → ([(⟨none, 0, 0⟩ : SV)] : List SV)[k']? = some a → ((wr.alloc LIT).drew).ownsRow w.heap.size 3 1 a.v c.args.length (c.args.flatMap gI) from by
          intro LIT k' c a hc ha
          match k', hc, ha with
          | 0, hc, ha => injection hc with hc; injection ha with ha; subst hc ha; exact own0 _ _ _ 1
          | k + 1, hc, ha => cases hc)
        obtain ⟨Aj, cj, hAj, HR0⟩ := HX.out.row (j := 0) (by omega)
        obtain ⟨L, hL⟩ : ∃ L, ((n1 (ncalls pv)) 0).length = L := ⟨_, rfl⟩
        rw [hL] at hAj HR0
        have hL18 : L ≤ 20 := by rw [← hL]; exact HLN.out
        obtain ⟨y, hy⟩ : ∃ y, ((n1 (ncalls pv)) 0).zip (av 0) ++ [((⟨1, []⟩ : VCall), ((⟨none, 0, 0⟩ : SV) : SV))] = y := ⟨_, rfl⟩
        have HYE := hid hy
        have HYL := hid (show y.length = L + 1 by rw [← hy, List.length_append, HR0.len]; rfl)
        have HR := hid HR0
        have HAJ := hid hAj
        have c2x := HR.out.c2; have c3 := HR.out.c3; have f3 := HR.out.f3; have hcj := HR.out.hcj; have hcm := HR.out.hcm
        unfold maxLen at hcm
        clear hy HR0 hAj hL
        have ltT := World.block_lt_of_cell? wr _ c3
        have ltX := World.block_lt_of_cell? wr _ c2x
        have ltT1 : T < wr.heap.size + 1 := Nat.lt_succ_of_lt ltT
        have hq3 : ∀ o1 o2 : Obj, ((wr.alloc o1).alloc o2).cell? ⟨T, 0, none⟩ = some (.slice Aj L cj) := fun o1 o2 => cell_below (bnew (bnew (bnil wr) o1) o2) c3
        skip
        refine wp_region_held_drew (S := (fun w' => w'.cell? ⟨X, 2, none⟩ = some (.slice (some ⟨T, 0, none⟩) 1 1) ∧ w'.frozen? ⟨T, 0, none⟩ = false)) (by kernel_rfl) ?_ (fun hHeld => ?_)
        · (try dsimp only); (first | assumption | exact ⟨c2x, f3⟩ | exact HZ.1 | exact HZ.2.2 _ | (refine sees2f ?_ c2x c3 f3; (repeat (first | exact bnil _ | refine Below.drew ?_ | refine bnew ?_ _))))
        refine wpAnyH_take (i := 0) (oi := ⟨some 72, _, _, _, _, _⟩) (v := ?_) rfl (by kernel_rfl) (by kernel_rfl) (by kernel_rfl) (fun _ _ _ h => h) (Or.inl ⟨by rfl, ?_⟩) (by assumption) ?_
        rotate_left
        · intro w hSw; (try dsimp only at hSw); go_simp <;> with_reducible rfl
        try simp only [Act.put, List.setIfInBounds_toArray, List.set_cons_zero, List.set_cons_succ]
        refine wpAnyH_take (i := 1) (oi := ⟨some 73, _, _, _, _, _⟩) (v := ?_) rfl (by kernel_rfl) (by kernel_rfl) (by kernel_rfl) (fun _ _ _ h => h) (Or.inl ⟨by rfl, ?_⟩) (by assumption) ?_
        rotate_left
        · intro w hSw; (try dsimp only at hSw); go_simp <;> with_reducible rfl
        try simp only [Act.put, List.setIfInBounds_toArray, List.set_cons_zero, List.set_cons_succ]
        refine wpAnyH_take (i := 2) (oi := ⟨some 74, _, _, _, _, _⟩) (v := ?_) rfl (by kernel_rfl) (by kernel_rfl) (by kernel_rfl) (fun _ _ _ h => h) (Or.inl ⟨by rfl, ?_⟩) (by assumption) ?_
        rotate_left
        · intro w hSw; (try dsimp only at hSw); go_simp <;> with_reducible rfl
        try simp only [Act.put, List.setIfInBounds_toArray, List.set_cons_zero, List.set_cons_succ]
        refine wpAnyH_take (i := 3) (oi := ⟨some 75, _, _, _, _, _⟩) (v := ?_) rfl (by kernel_rfl) (by kernel_rfl) (by kernel_rfl) (fun _ _ _ h => h) (Or.inl ⟨by rfl, ?_⟩) (by assumption) ?_
        rotate_left
        · intro w hSw; (try dsimp only at hSw); go_simp <;> with_reducible rfl
        try simp only [Act.put, List.setIfInBounds_toArray, List.set_cons_zero, List.set_cons_succ]
        refine wpAnyH_take (i := 4) (oi := ⟨some 76, _, _, _, _, _⟩) (v := ?_) rfl (by kernel_rfl) (by kernel_rfl) (by kernel_rfl) (fun _ _ _ h => h) (Or.inl ⟨by rfl, ?_⟩) (by assumption) ?_
        rotate_left
        · intro w hSw; (try dsimp only at hSw); go_simp <;> with_reducible rfl
        try simp only [Act.put, List.setIfInBounds_toArray, List.set_cons_zero, List.set_cons_succ]
        refine wpAnyH_take (i := 6) (oi := ⟨some 78, _, _, _, _, _⟩) (v := ?_) rfl (by kernel_rfl) (by kernel_rfl) (by kernel_rfl) (fun _ _ _ h => h) (Or.inl ⟨by rfl, ?_⟩) (by assumption) ?_
        rotate_left
        · intro w hSw; (try dsimp only at hSw); go_simp <;> with_reducible rfl
        try simp only [Act.put, List.setIfInBounds_toArray, List.set_cons_zero, List.set_cons_succ]
        refine wpAnyH_ready (rs := [5, 7]) (by kernel_rfl) (by simp) ?_
        refine AllReadyH.cons (o := ⟨some 77, _, _, _, _, _⟩) rfl (fun K hK => ?_) ?_
        go_simp
        refine hK.out _ _ ?_ (fun hHeld => ?_)
        · (try dsimp only); (first | assumption | exact ⟨c2x, f3⟩ | exact HZ.1 | exact HZ.2.2 _ | (refine sees2f ?_ c2x c3 f3; (repeat (first | exact bnil _ | refine Below.drew ?_ | refine bnew ?_ _))))
        clear hK K
        try simp only [Act.put, List.setIfInBounds_toArray, List.set_cons_zero, List.set_cons_succ]
        refine wpAnyH_ready (rs := [7]) (by kernel_rfl) (by simp) ?_
        refine AllReadyH.cons (o := ⟨some 79, _, _, _, _, _⟩) rfl (fun K hK => ?_) AllReadyH.nil
        go_simp
        refine hK.out _ _ ?_ (fun hHeld => ?_)
        · (try dsimp only); (first | assumption | exact ⟨c2x, f3⟩ | exact HZ.1 | exact HZ.2.2 _ | (refine sees2f ?_ c2x c3 f3; (repeat (first | exact bnil _ | refine Below.drew ?_ | refine bnew ?_ _))))
        clear hK K
        try simp only [Act.put, List.setIfInBounds_toArray, List.set_cons_zero, List.set_cons_succ]
        refine wpAnyH_ready (rs := [8]) (by kernel_rfl) (by simp) ?_
        refine AllReadyH.cons (o := ⟨some 80, _, _, _, _, _⟩) rfl (fun K hK => ?_) AllReadyH.nil
        (refine step_appC elmCN gS_one rfl (.tmp 77) (.tmp 79) rfl (.slice Aj L cj) (((n1 (ncalls pv)) 0).zip (av 0)) rfl (HR.out.row _ (bnew (bnil _) _).drew) [((⟨1, []⟩ : VCall), ((⟨none, 0, 0⟩ : SV) : SV))] y HYE rfl (Sl.drew (Sl.fresh' _ #[_, _] 35 2 1 _ (by simp) rfl)) rfl (by rw [HYL.out]; simp only [maxLen]; omega) (by rw [HYL.out]; omega) (Nat.le_trans HR.out.size (bnew (bnil _) _).drew.size) ?_; intro E6 c6 w6 hc6 hc7 HN6 HG6 HO6; have HZ := HR.out.grow _ w6 (bnew (bnil _) _).drew HG6.out; have HIZ := hid (HX.out.ints (j := 0) (by omega) (bnew (bnil _) _).drew (by rw [HAJ.out]; exact HG6.out) HCN.out))
        refine hK.out _ _ ?_ (fun hHeld => ?_)
        · (try dsimp only); (first | assumption | exact ⟨c2x, f3⟩ | exact HZ.1 | exact HZ.2.2 _ | (refine sees2f ?_ c2x c3 f3; (repeat (first | exact bnil _ | refine Below.drew ?_ | refine bnew ?_ _))))
        clear hK K
        try simp only [Act.put, List.setIfInBounds_toArray, List.set_cons_zero, List.set_cons_succ]
        refine wpAnyH_take (i := 9) (oi := ⟨some 81, _, _, _, _, _⟩) (v := ?_) rfl (by kernel_rfl) (by kernel_rfl) (by kernel_rfl) (fun _ _ _ h => h) (Or.inl ⟨by rfl, ?_⟩) (by assumption) ?_
        rotate_left
        · intro w hSw; (try dsimp only at hSw); go_simp <;> with_reducible rfl
        try simp only [Act.put, List.setIfInBounds_toArray, List.set_cons_zero, List.set_cons_succ]
        refine wpAnyH_ready (rs := [10]) (by kernel_rfl) (by simp) ?_
        refine AllReadyH.cons (o := ⟨none, _, _, _, _, _⟩) rfl (fun K hK => ?_) AllReadyH.nil
        go_simp
        refine hK.out _ _ ?_ (fun hHeld => ?_)
        · (try dsimp only); (first | assumption | exact ⟨c2x, f3⟩ | exact HZ.1 | exact HZ.2.2 _ | (refine sees2f ?_ c2x c3 f3; (repeat (first | exact bnil _ | refine Below.drew ?_ | refine bnew ?_ _))))
        clear hK K
        try dsimp only [Act.put]
        refine wpAnyH_done (by kernel_rfl) ?_ _
        rotate_left
        refine AllReadyH.cons (o := ⟨some 79, _, _, _, _, _⟩) rfl (fun K hK => ?_) AllReadyH.nil
        go_simp
        refine hK.out _ _ ?_ (fun hHeld => ?_)
        · (try dsimp only); (first | assumption | exact ⟨c2x, f3⟩ | exact HZ.1 | exact HZ.2.2 _ | (refine sees2f ?_ c2x c3 f3; (repeat (first | exact bnil _ | refine Below.drew ?_ | refine bnew ?_ _))))
        clear hK K
        try simp only [Act.put, List.setIfInBounds_toArray, List.set_cons_zero, List.set_cons_succ]
        refine wpAnyH_ready (rs := [5]) (by kernel_rfl) (by simp) ?_
        refine AllReadyH.cons (o := ⟨some 77, _, _, _, _, _⟩) rfl (fun K hK => ?_) AllReadyH.nil
        go_simp
        refine hK.out _ _ ?_ (fun hHeld => ?_)
        · (try dsimp only); (first | assumption | exact ⟨c2x, f3⟩ | exact HZ.1 | exact HZ.2.2 _ | (refine sees2f ?_ c2x c3 f3; (repeat (first | exact bnil _ | refine Below.drew ?_ | refine bnew ?_ _))))
        clear hK K
        try simp only [Act.put, List.setIfInBounds_toArray, List.set_cons_zero, List.set_cons_succ]
        refine wpAnyH_ready (rs := [8]) (by kernel_rfl) (by simp) ?_
        refine AllReadyH.cons (o := ⟨some 80, _, _, _, _, _⟩) rfl (fun K hK => ?_) AllReadyH.nil
        (refine step_appC elmCN gS_one rfl (.tmp 77) (.tmp 79) rfl (.slice Aj L cj) (((n1 (ncalls pv)) 0).zip (av 0)) rfl (HR.out.row _ (bnew (bnil _) _).drew) [((⟨1, []⟩ : VCall), ((⟨none, 0, 0⟩ : SV) : SV))] y HYE rfl (Sl.drew (Sl.fresh' _ #[_, _] 35 2 1 _ (by simp) rfl)) rfl (by rw [HYL.out]; simp only [maxLen]; omega) (by rw [HYL.out]; omega) (Nat.le_trans HR.out.size (bnew (bnil _) _).drew.size) ?_; intro E6 c6 w6 hc6 hc7 HN6 HG6 HO6; have HZ := HR.out.grow _ w6 (bnew (bnil _) _).drew HG6.out; have HIZ := hid (HX.out.ints (j := 0) (by omega) (bnew (bnil _) _).drew (by rw [HAJ.out]; exact HG6.out) HCN.out))
        refine hK.out _ _ ?_ (fun hHeld => ?_)
        · (try dsimp only); (first | assumption | exact ⟨c2x, f3⟩ | exact HZ.1 | exact HZ.2.2 _ | (refine sees2f ?_ c2x c3 f3; (repeat (first | exact bnil _ | refine Below.drew ?_ | refine bnew ?_ _))))
        clear hK K
        try simp only [Act.put, List.setIfInBounds_toArray, List.set_cons_zero, List.set_cons_succ]
        refine wpAnyH_take (i := 9) (oi := ⟨some 81, _, _, _, _, _⟩) (v := ?_) rfl (by kernel_rfl) (by kernel_rfl) (by kernel_rfl) (fun _ _ _ h => h) (Or.inl ⟨by rfl, ?_⟩) (by assumption) ?_
        rotate_left
        · intro w hSw; (try dsimp only at hSw); go_simp <;> with_reducible rfl
        try simp only [Act.put, List.setIfInBounds_toArray, List.set_cons_zero, List.set_cons_succ]
        refine wpAnyH_ready (rs := [10]) (by kernel_rfl) (by simp) ?_
        refine AllReadyH.cons (o := ⟨none, _, _, _, _, _⟩) rfl (fun K hK => ?_) AllReadyH.nil
        go_simp
        refine hK.out _ _ ?_ (fun hHeld => ?_)
        · (try dsimp only); (first | assumption | exact ⟨c2x, f3⟩ | exact HZ.1 | exact HZ.2.2 _ | (refine sees2f ?_ c2x c3 f3; (repeat (first | exact bnil _ | refine Below.drew ?_ | refine bnew ?_ _))))
        clear hK K
        try dsimp only [Act.put]
        refine wpAnyH_done (by kernel_rfl) ?_ _
        rotate_left
        all_goals
          have HF := hid (HX.out.app (j := 0) (by omega) [⟨1, []⟩] [(⟨none, 0, 0⟩ : SV)] (bnew (bnil _) _).drew rfl (HOF.out _) HYE.out (by rw [HAJ.out]; exact HG6.out) (by rw [HAJ.out]; exact HO6.out) HN6.out)
          go_wp2_with fail
          go_meet
          exact ⟨_, _, hid (by have h1 := HF.out; rw [n1_app] at h1; exact h1), hid (HIZ.out.2 _)⟩
      case rest =>
        clear HX HCN HNA HLN
        clear tv av
        obtain ⟨tv, av, HX, HCN⟩ := hcut
        obtain ⟨wR, hwR⟩ : ∃ w2, w2 = wc := ⟨_, rfl⟩
        rw [← hwR] at HX HCN ⊢
        clear hwR
        have HWR := hid (show wR.ownsRow w.heap.size 3 1 (.slice AW n cW) n ((List.replicate n (0 : Int)).flatMap gI) by have h := HX.out.own; rw [List.length_replicate] at h; exact h)
        have HEA := hid (snap_tells h1 h6 HPL.out HPV.out)
        have HTR := hid (HT.out.below HX.out.below)
        have BR := hid HX.out.below
        have HMA := hid (nmachT_at HX.out.mn h1 h6 HPL.out)
        have x0 : wR.cell? ⟨X, 0, none⟩ = some (.slice AW n cW) := HX.out.hx.cell 0
        have x1 : wR.cell? ⟨X, 1, none⟩ = some (.slice (some ⟨Cb, 0, none⟩) 2 2) := HX.out.hx.cell 1
        have x2 : wR.cell? ⟨X, 2, none⟩ = some (.slice (some ⟨T, 0, none⟩) 1 1) := HX.out.hx.cell 2
        clear HX BA
        obtain ⟨cz, hmk0, hsl⟩ := mk_zeros wR.drew 1140 (by decide)
        have hmk : (Instr.makeSlice 25 (.int .i64 1140) (.int .i64 1140)).run Tryd.prog wR.drew = .ok (.slice (some ⟨wR.drew.heap.size, 0, none⟩) 1140 1140) (wR.drew.alloc (.cells cz 3)) := hmk0
        clear hmk0
        have HSL := hid hsl
        clear hsl
        obtain ⟨Z, hZ⟩ : ∃ Z : List Nat, List.replicate 1140 0 = Z := ⟨_, rfl⟩
        rw [hZ] at HSL HEA
        have HZ4 := hid (show ∀ x ∈ Z, x < 1 by rw [← hZ]; intro x hx; rw [List.eq_of_mem_replicate hx]; decide)
        clear hZ
        have BZ := hid (bnew (bnil wR).drew (.cells cz 3))
        go_upto_region 19 with fail
        refine wp_region_held_drew (S := (fun w' => w'.cell? ⟨X, 0, none⟩ = some (.slice AW n cW) ∧ w'.cell? ⟨X, 1, none⟩ = some (.slice (some ⟨Cb, 0, none⟩) 2 2) ∧ w'.cell? ⟨X, 2, none⟩ = some (.slice (some ⟨T, 0, none⟩) 1 1))) (by kernel_rfl) ?_ (fun hHeld => ?_)
        · (try dsimp only); (first | assumption | exact ⟨x0, x1, x2⟩ | exact ⟨cell_below BZ.out x0, cell_below BZ.out x1, cell_below BZ.out x2⟩ | exact ⟨cell_below b5 x0, cell_below b5 x1, cell_below b5 x2⟩)
        refine wpAnyH_take (i := 0) (oi := ⟨some 83, _, _, _, _, _⟩) (v := ?_) rfl (by kernel_rfl) (by kernel_rfl) (by kernel_rfl) (fun _ _ _ h => h) (Or.inl ⟨by rfl, ?_⟩) (by assumption) ?_
        rotate_left
        · intro w hSw; (try dsimp only at hSw); go_simp <;> with_reducible rfl
        try simp only [Act.put, List.setIfInBounds_toArray, List.set_cons_zero, List.set_cons_succ]
        refine wpAnyH_ready (rs := [1]) (by kernel_rfl) (by simp) ?_
        refine AllReadyH.cons (o := ⟨some 84, _, _, _, _, _⟩) rfl (fun K hK => ?_) AllReadyH.nil
        go_simp
        refine hK.out _ _ ?_ (fun hHeld => ?_)
        · (try dsimp only); (first | assumption | exact ⟨x0, x1, x2⟩ | exact ⟨cell_below BZ.out x0, cell_below BZ.out x1, cell_below BZ.out x2⟩ | exact ⟨cell_below b5 x0, cell_below b5 x1, cell_below b5 x2⟩)
        clear hK K
        try simp only [Act.put, List.setIfInBounds_toArray, List.set_cons_zero, List.set_cons_succ]
        refine wpAnyH_ready (rs := [2]) (by kernel_rfl) (by simp) ?_
        refine AllReadyH.cons (o := ⟨some 85, _, _, _, _, _⟩) rfl (fun K hK => ?_) AllReadyH.nil
        go_simp
        refine (ran_of AW (some ⟨Cb, 0, none⟩) (some ⟨T, 0, none⟩) (some ⟨wR.drew.heap.size, 0, none⟩) n cW 2 2 1 1 1140 1140 (nmachT n pv) Z _ (by omega) (by decide) (by decide) (by decide) (by decide) (HTR.out.below BZ.out) (HMA.out.below BZ.out) (Sl.own (own_below HWR.out BZ.out)) HSL.out HZ4.out HEA.out.2 (play_fin _ _)).mono ?_; rintro e w5 ⟨v3, rs, rfl, hrow, hrs, htold, b5⟩; have b5 := bgo BZ.out b5
        go_wp2_with fail
        refine hK.out _ _ ?_ (fun hHeld => ?_)
        · (try dsimp only); (first | assumption | exact ⟨x0, x1, x2⟩ | exact ⟨cell_below BZ.out x0, cell_below BZ.out x1, cell_below BZ.out x2⟩ | exact ⟨cell_below b5 x0, cell_below b5 x1, cell_below b5 x2⟩)
        clear hK K
        try simp only [Act.put, List.setIfInBounds_toArray, List.set_cons_zero, List.set_cons_succ]
        refine wpAnyH_take (i := 3) (oi := ⟨some 82, _, _, _, _, _⟩) (v := ?_) rfl (by kernel_rfl) (by kernel_rfl) (by kernel_rfl) (fun _ _ _ h => h) (Or.inl ⟨by rfl, ?_⟩) (by assumption) ?_
        rotate_left
        · intro w hSw; (try dsimp only at hSw); go_simp <;> with_reducible rfl
        try simp only [Act.put, List.setIfInBounds_toArray, List.set_cons_zero, List.set_cons_succ]
        refine wpAnyH_take (i := 4) (oi := ⟨some 86, _, _, _, _, _⟩) (v := ?_) rfl (by kernel_rfl) (by kernel_rfl) (by kernel_rfl) (fun _ _ _ h => h) (Or.inl ⟨by rfl, ?_⟩) (by assumption) ?_
        rotate_left
        · intro w hSw; (try dsimp only at hSw); go_simp <;> with_reducible rfl
        try simp only [Act.put, List.setIfInBounds_toArray, List.set_cons_zero, List.set_cons_succ]
        refine wpAnyH_take (i := 5) (oi := ⟨some 87, _, _, _, _, _⟩) (v := ?_) rfl (by kernel_rfl) (by kernel_rfl) (by kernel_rfl) (fun _ _ _ h => h) (Or.inl ⟨by rfl, ?_⟩) (by assumption) ?_
        rotate_left
        · intro w hSw; (try dsimp only at hSw); go_simp <;> with_reducible rfl
        try simp only [Act.put, List.setIfInBounds_toArray, List.set_cons_zero, List.set_cons_succ]
        refine wpAnyH_take (i := 6) (oi := ⟨some 14, _, _, _, _, _⟩) (v := ?_) rfl (by kernel_rfl) (by kernel_rfl) (by kernel_rfl) (fun _ _ _ h => h) (Or.inl ⟨by rfl, ?_⟩) (by assumption) ?_
        rotate_left
        · intro w hSw; (try dsimp only at hSw); go_simp <;> with_reducible rfl
        try simp only [Act.put, List.setIfInBounds_toArray, List.set_cons_zero, List.set_cons_succ]
        refine wpAnyH_take (i := 7) (oi := ⟨some 15, _, _, _, _, _⟩) (v := ?_) rfl (by kernel_rfl) (by kernel_rfl) (by kernel_rfl) (fun _ _ _ h => h) (Or.inl ⟨by rfl, ?_⟩) (by assumption) ?_
        rotate_left
        · intro w hSw; (try dsimp only at hSw); go_simp <;> with_reducible rfl
        try simp only [Act.put, List.setIfInBounds_toArray, List.set_cons_zero, List.set_cons_succ]
        refine wpAnyH_done (by kernel_rfl) ?_ _
        rotate_left
        obtain ⟨A3, c3, rfl, hc3, hc3'⟩ := own_form hrow
        have hLD : rs.length = 10 := by have := congrArg List.length hrs; rw [List.length_map] at this; rw [this]; exact HEA.out.1.len
        rw [hLD] at hrow hc3 ⊢
        have HD := hid (DsAt.mk hLD hrow htold)
        have HRS := hid hrs
        have B5 := hid (bgo BR.out b5)
        have HC5 := hid (HCN.out.below' b5)
        clear hrow htold hrs b5 hLD x0 x1 x2 hHeld hmk BZ HSL HZ4 HMA HTR HWR HCN BR
        obtain ⟨b9, d0, A0, c0, rfl, hd0, -, -, -, -, -, k4, ut0⟩ := HD.out.at_ (i := 0) (by decide)
        obtain ⟨b9', d9, A9, c9, e9, hd9, -, -, k46, -, -, k49, ut9⟩ := HD.out.at_ (i := 9) (by decide)
        injection e9 with e9
        injection e9 with e9
        subst e9
        rw [HRS.out] at hd0 hd9
        have ht0 := HEA.out.1.first d0 hd0
        obtain ⟨⟨e, he⟩, ht9⟩ := HEA.out.1.last d9 hd9
        rw [ht0, List.length_replicate] at k4 ut0
        rw [ht9, nwant_len] at k49 ut9
        rw [he] at k46
        have k4 : w5.cell? ⟨b9, 4, none⟩ = some (.slice A0 n c0) := k4
        have k46 : w5.cell? ⟨b9, 46, none⟩ = some (.int .i64 (e : Int)) := k46
        have k49 : w5.cell? ⟨b9, 49, none⟩ = some (.slice A9 n c9) := k49
        have q46 : ((e : Int) != -1) = true := bneT (by omega)
        have U0 := hid (Sl.own ut0); have U9 := hid (Sl.own ut9)
        obtain ⟨zs, hzs, hmk2⟩ := mk_intsL w5.drew n (by omega)
        have HFZ := hid (show Sl (w5.drew.alloc (.cells zs 3)) 1 (some ⟨w5.drew.heap.size, 0, none⟩) n (ints (List.replicate n (0 : Int))) from by
          have h := Sl.fresh w5.drew zs 3 1 n (by rw [← Array.length_toList, hzs, flatMap_len gI 1 (fun _ => rfl)]; simp)
          rw [hzs] at h
          exact h)
        have B9 := hid (bnew (bnil w5).drew (.cells zs 3))
        have HS13 := hid (same_ints A0 (some ⟨w5.drew.heap.size, 0, none⟩) n c0 n (List.replicate n (0 : Int)) (w5.drew.alloc (.cells zs 3)) (by omega) (U0.out.below B9.out) HFZ.out)
        have HS28 := hid (show ∀ w', Below w5.heap.size w5 w' → Calls Tryd.prog 23 #[.slice A9 n c9, .slice (some ⟨Cn, 0, none⟩) n n] w' fun e w'' => e = .returned (.bool true) ∧ Below w'.heap.size w' w'' from fun w' hb => by
          have h := (HC5.out.below' hb).sl 1 n (by rw [← Array.length_toList, intA_ints, ints_length, nwant_len, Nat.mul_one])
          rw [intA_ints] at h
          exact same_ints A9 (some ⟨Cn, 0, none⟩) n c9 n (nwant n pv) w' (by omega) (U9.out.below hb) h)
        clear ut0 ut9 hd0 hd9 ht0 ht9 he hzs
        have jn : (0 : Int) ≤ (n : Int) := by omega
        go_upto_region 20 with fail
        refine wp_region_held_drew (S := (fun w' => w'.cell? ⟨b9, 4, none⟩ = some (.slice A0 n c0) ∧ w'.cell? ⟨b9, 46, none⟩ = some (.int .i64 (e : Int)) ∧ w'.cell? ⟨b9, 49, none⟩ = some (.slice A9 n c9))) (by kernel_rfl) ?_ (fun hHeld => ?_)
        · (try dsimp only); (first | assumption | exact ⟨k4, k46, k49⟩ | exact ⟨cell_below B9.out k4, cell_below B9.out k46, cell_below B9.out k49⟩ | exact ⟨cell_below b8 k4, cell_below b8 k46, cell_below b8 k49⟩ | exact ⟨cell_below b7 k4, cell_below b7 k46, cell_below b7 k49⟩)
        refine wpAnyH_take (i := 0) (oi := ⟨some 88, _, _, _, _, _⟩) (v := ?_) rfl (by kernel_rfl) (by kernel_rfl) (by kernel_rfl) (fun _ _ _ h => h) (Or.inl ⟨by rfl, ?_⟩) (by assumption) ?_
        rotate_left
        · intro w hSw; (try dsimp only at hSw); go_simp <;> with_reducible rfl
        try simp only [Act.put, List.setIfInBounds_toArray, List.set_cons_zero, List.set_cons_succ]
        refine wpAnyH_take (i := 1) (oi := ⟨some 89, _, _, _, _, _⟩) (v := .bool true) rfl (by kernel_rfl) (by kernel_rfl) (by kernel_rfl) (fun _ _ _ h => h) (Or.inl ⟨by rfl, ?_⟩) (by assumption) ?_
        · intro w hSw; (try dsimp only at hSw); go_simp <;> (first | with_reducible rfl | rfl)
        try simp only [Act.put, List.setIfInBounds_toArray, List.set_cons_zero, List.set_cons_succ]
        refine wpAnyH_take (i := 2) (oi := ⟨some 90, _, _, _, _, _⟩) (v := ?_) rfl (by kernel_rfl) (by kernel_rfl) (by kernel_rfl) (fun _ _ _ h => h) (Or.inl ⟨by rfl, ?_⟩) (by assumption) ?_
        rotate_left
        · intro w hSw; (try dsimp only at hSw); go_simp <;> with_reducible rfl
        try simp only [Act.put, List.setIfInBounds_toArray, List.set_cons_zero, List.set_cons_succ]
        refine wpAnyH_take (i := 3) (oi := ⟨some 91, _, _, _, _, _⟩) (v := ?_) rfl (by kernel_rfl) (by kernel_rfl) (by kernel_rfl) (fun _ _ _ h => h) (Or.inl ⟨by rfl, ?_⟩) (by assumption) ?_
        rotate_left
        · intro w hSw; (try dsimp only at hSw); go_simp <;> with_reducible rfl
        try simp only [Act.put, List.setIfInBounds_toArray, List.set_cons_zero, List.set_cons_succ]
        refine wpAnyH_take (i := 4) (oi := ⟨some 92, _, _, _, _, _⟩) (v := ?_) rfl (by kernel_rfl) (by kernel_rfl) (by kernel_rfl) (fun _ _ _ h => h) (Or.inl ⟨by rfl, ?_⟩) (by assumption) ?_
        rotate_left
        · intro w hSw; (try dsimp only at hSw); go_simp <;> with_reducible rfl
        try simp only [Act.put, List.setIfInBounds_toArray, List.set_cons_zero, List.set_cons_succ]
        refine wpAnyH_take (i := 5) (oi := ⟨some 93, _, _, _, _, _⟩) (v := ?_) rfl (by kernel_rfl) (by kernel_rfl) (by kernel_rfl) (fun _ _ _ h => h) (Or.inl ⟨by rfl, ?_⟩) (by assumption) ?_
        rotate_left
        · intro w hSw; (try dsimp only at hSw); go_simp <;> with_reducible rfl
        try simp only [Act.put, List.setIfInBounds_toArray, List.set_cons_zero, List.set_cons_succ]
        refine wpAnyH_take (i := 6) (oi := ⟨some 94, _, _, _, _, _⟩) (v := .bool true) rfl (by kernel_rfl) (by kernel_rfl) (by kernel_rfl) (fun _ _ _ h => h) (Or.inl ⟨by rfl, ?_⟩) (by assumption) ?_
        · intro w hSw; (try dsimp only at hSw); go_simp <;> (first | with_reducible rfl | rfl)
        try simp only [Act.put, List.setIfInBounds_toArray, List.set_cons_zero, List.set_cons_succ]
        refine wpAnyH_take (i := 7) (oi := ⟨some 95, _, _, _, _, _⟩) (v := ?_) rfl (by kernel_rfl) (by kernel_rfl) (by kernel_rfl) (fun _ _ _ h => h) (Or.inl ⟨by rfl, ?_⟩) (by assumption) ?_
        rotate_left
        · intro w hSw; (try dsimp only at hSw); go_simp <;> with_reducible rfl
        try simp only [Act.put, List.setIfInBounds_toArray, List.set_cons_zero, List.set_cons_succ]
        refine wpAnyH_take (i := 8) (oi := ⟨some 96, _, _, _, _, _⟩) (v := ?_) rfl (by kernel_rfl) (by kernel_rfl) (by kernel_rfl) (fun _ _ _ h => h) (Or.inl ⟨by rfl, ?_⟩) (by assumption) ?_
        rotate_left
        · intro w hSw; (try dsimp only at hSw); go_simp <;> with_reducible rfl
        try simp only [Act.put, List.setIfInBounds_toArray, List.set_cons_zero, List.set_cons_succ]
        refine wpAnyH_take (i := 9) (oi := ⟨some 97, _, _, _, _, _⟩) (v := ?_) rfl (by kernel_rfl) (by kernel_rfl) (by kernel_rfl) (fun _ _ _ h => h) (Or.inl ⟨by rfl, ?_⟩) (by assumption) ?_
        rotate_left
        · intro w hSw; (try dsimp only at hSw); go_simp <;> with_reducible rfl
        try simp only [Act.put, List.setIfInBounds_toArray, List.set_cons_zero, List.set_cons_succ]
        refine wpAnyH_take (i := 10) (oi := ⟨some 98, _, _, _, _, _⟩) (v := ?_) rfl (by kernel_rfl) (by kernel_rfl) (by kernel_rfl) (fun _ _ _ h => h) (Or.inl ⟨by rfl, ?_⟩) (by assumption) ?_
        rotate_left
        · intro w hSw; (try dsimp only at hSw); go_simp <;> with_reducible rfl
        try simp only [Act.put, List.setIfInBounds_toArray, List.set_cons_zero, List.set_cons_succ]
        refine wpAnyH_take (i := 11) (oi := ⟨some 99, _, _, _, _, _⟩) (v := ?_) rfl (by kernel_rfl) (by kernel_rfl) (by kernel_rfl) (fun _ _ _ h => h) (Or.inl ⟨by rfl, ?_⟩) (by assumption) ?_
        rotate_left
        · intro w hSw; (try dsimp only at hSw); go_simp <;> with_reducible rfl
        try simp only [Act.put, List.setIfInBounds_toArray, List.set_cons_zero, List.set_cons_succ]
        refine wpAnyH_ready (rs := [12]) (by kernel_rfl) (by simp) ?_
        refine AllReadyH.cons (o := ⟨some 100, _, _, _, _, _⟩) rfl (fun K hK => ?_) AllReadyH.nil
        go_simp
        refine hK.out _ _ ?_ (fun hHeld => ?_)
        · (try dsimp only); (first | assumption | exact ⟨k4, k46, k49⟩ | exact ⟨cell_below B9.out k4, cell_below B9.out k46, cell_below B9.out k49⟩ | exact ⟨cell_below b8 k4, cell_below b8 k46, cell_below b8 k49⟩ | exact ⟨cell_below b7 k4, cell_below b7 k46, cell_below b7 k49⟩)
        clear hK K
        try simp only [Act.put, List.setIfInBounds_toArray, List.set_cons_zero, List.set_cons_succ]
        refine wpAnyH_ready (rs := [13]) (by kernel_rfl) (by simp) ?_
        refine AllReadyH.cons (o := ⟨some 101, _, _, _, _, _⟩) rfl (fun K hK => ?_) AllReadyH.nil
        go_simp
        refine HS13.out.mono ?_; rintro e7 w7 ⟨rfl, b7⟩; have b7 := bgo B9.out b7
        go_wp2_with fail
        refine hK.out _ _ ?_ (fun hHeld => ?_)
        · (try dsimp only); (first | assumption | exact ⟨k4, k46, k49⟩ | exact ⟨cell_below B9.out k4, cell_below B9.out k46, cell_below B9.out k49⟩ | exact ⟨cell_below b8 k4, cell_below b8 k46, cell_below b8 k49⟩ | exact ⟨cell_below b7 k4, cell_below b7 k46, cell_below b7 k49⟩)
        clear hK K
        try simp only [Act.put, List.setIfInBounds_toArray, List.set_cons_zero, List.set_cons_succ]
        refine wpAnyH_take (i := 14) (oi := ⟨some 102, _, _, _, _, _⟩) (v := ?_) rfl (by kernel_rfl) (by kernel_rfl) (by kernel_rfl) (fun _ _ _ h => h) (Or.inl ⟨by rfl, ?_⟩) (by assumption) ?_
        rotate_left
        · intro w hSw; (try dsimp only at hSw); go_simp <;> with_reducible rfl
        try simp only [Act.put, List.setIfInBounds_toArray, List.set_cons_zero, List.set_cons_succ]
        refine wpAnyH_take (i := 15) (oi := ⟨some 103, _, _, _, _, _⟩) (v := .bool true) rfl (by kernel_rfl) (by kernel_rfl) (by kernel_rfl) (fun _ _ _ h => h) (Or.inl ⟨by rfl, ?_⟩) (by assumption) ?_
        · intro w hSw; (try dsimp only at hSw); go_simp <;> (first | with_reducible rfl | rfl)
        try simp only [Act.put, List.setIfInBounds_toArray, List.set_cons_zero, List.set_cons_succ]
        refine wpAnyH_take (i := 16) (oi := ⟨some 104, _, _, _, _, _⟩) (v := ?_) rfl (by kernel_rfl) (by kernel_rfl) (by kernel_rfl) (fun _ _ _ h => h) (Or.inl ⟨by rfl, ?_⟩) (by assumption) ?_
        rotate_left
        · intro w hSw; (try dsimp only at hSw); go_simp <;> with_reducible rfl
        try simp only [Act.put, List.setIfInBounds_toArray, List.set_cons_zero, List.set_cons_succ]
        refine wpAnyH_take (i := 17) (oi := ⟨some 105, _, _, _, _, _⟩) (v := ?_) rfl (by kernel_rfl) (by kernel_rfl) (by kernel_rfl) (fun _ _ _ h => h) (Or.inl ⟨by rfl, ?_⟩) (by assumption) ?_
        rotate_left
        · intro w hSw; (try dsimp only at hSw); go_simp <;> with_reducible rfl
        try simp only [Act.put, List.setIfInBounds_toArray, List.set_cons_zero, List.set_cons_succ]
        refine wpAnyH_take (i := 18) (oi := ⟨some 106, _, _, _, _, _⟩) (v := ?_) rfl (by kernel_rfl) (by kernel_rfl) (by kernel_rfl) (fun _ _ _ h => h) (Or.inl ⟨by rfl, ?_⟩) (by assumption) ?_
        rotate_left
        · intro w hSw; (try dsimp only at hSw); go_simp <;> with_reducible rfl
        try simp only [Act.put, List.setIfInBounds_toArray, List.set_cons_zero, List.set_cons_succ]
        refine wpAnyH_take (i := 19) (oi := ⟨some 107, _, _, _, _, _⟩) (v := ?_) rfl (by kernel_rfl) (by kernel_rfl) (by kernel_rfl) (fun _ _ _ h => h) (Or.inl ⟨by rfl, ?_⟩) (by assumption) ?_
        rotate_left
        · intro w hSw; (try dsimp only at hSw); go_simp <;> with_reducible rfl
        try simp only [Act.put, List.setIfInBounds_toArray, List.set_cons_zero, List.set_cons_succ]
        refine wpAnyH_take (i := 20) (oi := ⟨some 108, _, _, _, _, _⟩) (v := ?_) rfl (by kernel_rfl) (by kernel_rfl) (by kernel_rfl) (fun _ _ _ h => h) (Or.inl ⟨by rfl, ?_⟩) (by assumption) ?_
        rotate_left
        · intro w hSw; (try dsimp only at hSw); go_simp <;> with_reducible rfl
        try simp only [Act.put, List.setIfInBounds_toArray, List.set_cons_zero, List.set_cons_succ]
        refine wpAnyH_take (i := 21) (oi := ⟨some 109, _, _, _, _, _⟩) (v := ?_) rfl (by kernel_rfl) (by kernel_rfl) (by kernel_rfl) (fun _ _ _ h => h) (Or.inl ⟨by rfl, ?_⟩) (by assumption) ?_
        rotate_left
        · intro w hSw; (try dsimp only at hSw); go_simp <;> with_reducible rfl
        try simp only [Act.put, List.setIfInBounds_toArray, List.set_cons_zero, List.set_cons_succ]
        refine wpAnyH_take (i := 22) (oi := ⟨some 110, _, _, _, _, _⟩) (v := .bool true) rfl (by kernel_rfl) (by kernel_rfl) (by kernel_rfl) (fun _ _ _ h => h) (Or.inl ⟨by rfl, ?_⟩) (by assumption) ?_
        · intro w hSw; (try dsimp only at hSw); go_simp <;> (first | with_reducible rfl | rfl)
        try simp only [Act.put, List.setIfInBounds_toArray, List.set_cons_zero, List.set_cons_succ]
        refine wpAnyH_take (i := 23) (oi := ⟨some 111, _, _, _, _, _⟩) (v := ?_) rfl (by kernel_rfl) (by kernel_rfl) (by kernel_rfl) (fun _ _ _ h => h) (Or.inl ⟨by rfl, ?_⟩) (by assumption) ?_
        rotate_left
        · intro w hSw; (try dsimp only at hSw); go_simp <;> with_reducible rfl
        try simp only [Act.put, List.setIfInBounds_toArray, List.set_cons_zero, List.set_cons_succ]
        refine wpAnyH_take (i := 24) (oi := ⟨some 112, _, _, _, _, _⟩) (v := ?_) rfl (by kernel_rfl) (by kernel_rfl) (by kernel_rfl) (fun _ _ _ h => h) (Or.inl ⟨by rfl, ?_⟩) (by assumption) ?_
        rotate_left
        · intro w hSw; (try dsimp only at hSw); go_simp <;> with_reducible rfl
        try simp only [Act.put, List.setIfInBounds_toArray, List.set_cons_zero, List.set_cons_succ]
        refine wpAnyH_take (i := 25) (oi := ⟨some 113, _, _, _, _, _⟩) (v := ?_) rfl (by kernel_rfl) (by kernel_rfl) (by kernel_rfl) (fun _ _ _ h => h) (Or.inl ⟨by rfl, ?_⟩) (by assumption) ?_
        rotate_left
        · intro w hSw; (try dsimp only at hSw); go_simp <;> with_reducible rfl
        try simp only [Act.put, List.setIfInBounds_toArray, List.set_cons_zero, List.set_cons_succ]
        refine wpAnyH_take (i := 26) (oi := ⟨some 114, _, _, _, _, _⟩) (v := ?_) rfl (by kernel_rfl) (by kernel_rfl) (by kernel_rfl) (fun _ _ _ h => h) (Or.inl ⟨by rfl, ?_⟩) (by assumption) ?_
        rotate_left
        · intro w hSw; (try dsimp only at hSw); go_simp <;> with_reducible rfl
        try simp only [Act.put, List.setIfInBounds_toArray, List.set_cons_zero, List.set_cons_succ]
        refine wpAnyH_take (i := 27) (oi := ⟨some 115, _, _, _, _, _⟩) (v := ?_) rfl (by kernel_rfl) (by kernel_rfl) (by kernel_rfl) (fun _ _ _ h => h) (Or.inl ⟨by rfl, ?_⟩) (by assumption) ?_
        rotate_left
        · intro w hSw; (try dsimp only at hSw); go_simp <;> with_reducible rfl
        try simp only [Act.put, List.setIfInBounds_toArray, List.set_cons_zero, List.set_cons_succ]
        refine wpAnyH_ready (rs := [28]) (by kernel_rfl) (by simp) ?_
        refine AllReadyH.cons (o := ⟨some 116, _, _, _, _, _⟩) rfl (fun K hK => ?_) AllReadyH.nil
        go_simp
        refine (HS28.out _ b7).mono ?_; rintro e8 w8 ⟨rfl, b8⟩; have b8 := bgo b7 b8
        go_wp2_with fail
        refine hK.out _ _ ?_ (fun hHeld => ?_)
        · (try dsimp only); (first | assumption | exact ⟨k4, k46, k49⟩ | exact ⟨cell_below B9.out k4, cell_below B9.out k46, cell_below B9.out k49⟩ | exact ⟨cell_below b8 k4, cell_below b8 k46, cell_below b8 k49⟩ | exact ⟨cell_below b7 k4, cell_below b7 k46, cell_below b7 k49⟩)
        clear hK K
        try simp only [Act.put, List.setIfInBounds_toArray, List.set_cons_zero, List.set_cons_succ]
        refine wpAnyH_take (i := 29) (oi := ⟨some 117, _, _, _, _, _⟩) (v := ?_) rfl (by kernel_rfl) (by kernel_rfl) (by kernel_rfl) (fun _ _ _ h => h) (Or.inl ⟨by rfl, ?_⟩) (by assumption) ?_
        rotate_left
        · intro w hSw; (try dsimp only at hSw); go_simp <;> with_reducible rfl
        try simp only [Act.put, List.setIfInBounds_toArray, List.set_cons_zero, List.set_cons_succ]
        refine wpAnyH_take (i := 30) (oi := ⟨some 6, _, _, _, _, _⟩) (v := ?_) rfl (by kernel_rfl) (by kernel_rfl) (by kernel_rfl) (fun _ _ _ h => h) (Or.inl ⟨by rfl, ?_⟩) (by assumption) ?_
        rotate_left
        · intro w hSw; (try dsimp only at hSw); go_simp <;> with_reducible rfl
        try simp only [Act.put, List.setIfInBounds_toArray, List.set_cons_zero, List.set_cons_succ]
        refine wpAnyH_done (by kernel_rfl) ?_ _
        rotate_left
        all_goals
          go_wp2_with fail
          go_ret
          exact ⟨rfl, bgo B5.out b8⟩
end Go.Proofs.YtabmkjokeeakdaaDoor
