/-
  barographkeep.snapMachine: its walk. Written by gen_snapm.py.
-/
import Derived.Test.YtabmkjokeeakdaaDoorMBun
import Derived.Test.YtabmkjokeeakdaaDoorKeep16
import Derived.Test.YtabmkjokeeakdaaDoorRunMay
import Derived.Test.YtabmkjokeeakdaaDoorCodesN
import Derived.Deep.RegionHeld
namespace Go.Proofs.YtabmkjokeeakdaaDoor
open Go.RowKit
set_option linter.unusedVariables false

/-- which of a thread's two parts is put i-th -/
def skk (cs : List Int) (i : Nat) : Nat := if i < cs.length then pk (cs.getD i 0) 2 else 0
theorem skk_lt (cs : List Int) (i : Nat) : skk cs i < 2 := by unfold skk; split; (have := pk_lt (cs.getD i 0) 2 (by decide); omega); decide
def spart (n : Nat) (cs : List Int) (i : Nat) : Nat := if n ≤ 2 * (i % 2) + skk cs i then 0 else 2 * (i % 2) + skk cs i
def sskip (n : Nat) (cs : List Int) (i : Nat) : Bool := decide (n ≤ 2 * (i % 2) + skk cs i) && i % 2 == 1
/-- how often each part is put, and the Puts of each thread, behind i rounds -/
def snst (n : Nat) (cs : List Int) : Nat → (Nat → Nat) × (Nat → List VCall)
  | 0 => (fun _ => 0, fun _ => [])
  | i + 1 => if sskip n cs i = true then snst n cs i else (upd (snst n cs i).1 (spart n cs i) ((snst n cs i).1 (spart n cs i) + 1), upd (snst n cs i).2 (i % 2) ((snst n cs i).2 (i % 2) ++ [⟨0, [(spart n cs i : Int), ((snst n cs i).1 (spart n cs i) : Int) + 1]⟩]))
theorem spart_lt {n : Nat} (h1 : 1 ≤ n) (h4 : n ≤ 4) (cs : List Int) (i : Nat) : spart n cs i < n ∧ spart n cs i < 4 := by
  unfold spart
  have := skk_lt cs i
  split <;> omega
theorem snst_cnt (n : Nat) (cs : List Int) : ∀ i p, (snst n cs i).1 p ≤ i
  | 0, _ => Nat.le_refl 0
  | i + 1, p => by
    unfold snst
    split
    · exact Nat.le_succ_of_le (snst_cnt n cs i p)
    · show upd _ _ _ p ≤ i + 1
      unfold upd
      split
      · exact Nat.succ_le_succ (snst_cnt n cs i _)
      · exact Nat.le_succ_of_le (snst_cnt n cs i p)
theorem snst_len (n : Nat) (cs : List Int) : ∀ i, ((snst n cs i).2 0).length ≤ (i + 1) / 2 ∧ ((snst n cs i).2 1).length ≤ i / 2
  | 0 => ⟨Nat.le_refl 0, Nat.le_refl 0⟩
  | i + 1 => by
    obtain ⟨h0, h1⟩ := snst_len n cs i
    unfold snst
    split
    · exact ⟨by omega, by omega⟩
    · show (upd (snst n cs i).2 (i % 2) _ 0).length ≤ _ ∧ (upd (snst n cs i).2 (i % 2) _ 1).length ≤ _
      unfold upd
      rcases (show i % 2 = 0 ∨ i % 2 = 1 by omega) with h | h
      · rw [h, if_pos rfl, if_neg (by decide), List.length_append]
        exact ⟨by simp; omega, by omega⟩
      · rw [h, if_neg (by decide), if_pos rfl, List.length_append]
        exact ⟨by omega, by simp; omega⟩
theorem snst_mem (n : Nat) (cs : List Int) : ∀ i j, ∀ c ∈ (snst n cs i).2 j, c.code = 0 ∧ c.args.length = 2
  | 0, _, c, h => by cases h
  | i + 1, j, c, h => by
    unfold snst at h
    split at h
    · exact snst_mem n cs i j c h
    · have h : c ∈ upd _ _ _ j := h
      unfold upd at h
      split at h
      · rcases List.mem_append.1 h with h | h
        · exact snst_mem n cs i _ c h
        · rw [List.mem_singleton.1 h]; exact ⟨rfl, rfl⟩
      · exact snst_mem n cs i j c h
/-- the calls of each thread: i rounds of Puts; k Scans each, one more of the threads below t -/
def nth (n : Nat) (cs : List Int) (i k t j : Nat) : List VCall := if j < 2 then (snst n cs i).2 j else if j < 4 then List.replicate (if j < t then k + 1 else k) ⟨1, []⟩ else []
theorem nth_zero (n : Nat) (cs : List Int) : nth n cs 0 0 2 = fun _ => [] := by
  funext j
  unfold nth
  by_cases h : j < 2
  · rw [if_pos h]; rfl
  · rw [if_neg h, if_neg h]; split <;> rfl
theorem nth_put {n : Nat} {cs : List Int} {i : Nat} (hs : sskip n cs i = false) : upd (nth n cs i 0 2) (i % 2) (nth n cs i 0 2 (i % 2) ++ [⟨0, [(spart n cs i : Int), ((snst n cs i).1 (spart n cs i) : Int) + 1]⟩]) = nth n cs (i + 1) 0 2 := by
  funext j
  unfold upd nth
  have hi : i % 2 < 2 := Nat.mod_lt _ (by decide)
  by_cases h : j = i % 2
  · subst h
    rw [if_pos rfl, if_pos hi, if_pos hi]
    conv => rhs; unfold snst
    rw [if_neg (by rw [hs]; decide)]
    show _ = upd _ _ _ (i % 2)
    unfold upd
    rw [if_pos rfl]
  · rw [if_neg h]
    by_cases h2 : j < 2
    · rw [if_pos h2, if_pos h2]
      conv => rhs; unfold snst
      rw [if_neg (by rw [hs]; decide)]
      show _ = upd _ _ _ j
      unfold upd
      rw [if_neg h]
    · simp only [if_neg h2]
theorem nth_skip {n : Nat} {cs : List Int} {i : Nat} (hs : sskip n cs i = true) : snst n cs (i + 1) = snst n cs i := by
  conv => lhs; unfold snst
  rw [if_pos hs]
theorem nth_get {n : Nat} {cs : List Int} {i k t : Nat} (h1 : 2 ≤ t) (h4 : t < 4) : upd (nth n cs i k t) t (nth n cs i k t t ++ [⟨1, []⟩]) = nth n cs i k (t + 1) := by
  funext j
  unfold upd nth
  by_cases h : j = t
  · subst h
    have h0 : ¬ j < 2 := by omega
    simp only [if_true, if_neg h0, if_pos h4, if_neg (Nat.lt_irrefl j), if_pos (Nat.lt_succ_self j)]
    rw [List.replicate_succ']
  · rw [if_neg h]
    by_cases h0 : j < 2
    · simp [h0]
    · by_cases h5 : j < t
      · simp [h0, h5, Nat.lt_succ_of_lt h5]
      · simp [h0, h5, show ¬ j < t + 1 by omega]
theorem nth_next (n : Nat) (cs : List Int) (i k : Nat) : nth n cs i k 4 = nth n cs i (k + 1) 2 := by
  funext j
  unfold nth
  by_cases h0 : j < 2
  · simp [h0]
  · by_cases h4 : j < 4
    · simp [h0, h4]
    · simp [h0, h4]
theorem nth_len {n : Nat} {cs : List Int} {i k t j : Nat} (hi : i ≤ 24) (hk : k ≤ 10) : (nth n cs i k t j).length ≤ 12 := by
  unfold nth
  have := snst_len n cs i
  split
  · rcases (show j = 0 ∨ j = 1 by omega) with rfl | rfl <;> omega
  · split
    · rw [List.length_replicate]; split <;> omega
    · simp
theorem nth_mem {n : Nat} {cs : List Int} {i k t j : Nat} : ∀ c ∈ nth n cs i k t j, c.code < 2 ∧ c.args.length ≤ 8 := by
  intro c hc
  unfold nth at hc
  split at hc
  · obtain ⟨h1, h2⟩ := snst_mem n cs i j c hc
    exact ⟨by omega, by omega⟩
  · split at hc
    · rw [List.eq_of_mem_replicate hc]; exact ⟨by decide, by decide⟩
    · cases hc
def nmach (n : Nat) (cs : List Int) : Mach := ⟨List.replicate n 0, [nputCode, nscanCode n], (List.range 4).map (nth n cs 24 10 2)⟩
theorem nput_len : nputCode.length = 7 := rfl
theorem nscan_len {n : Nat} (h1 : 1 ≤ n) (h6 : n ≤ 4) : (nscanCode n).length = 6 * n + 1 := by
  rcases (show n = 1 ∨ n = 2 ∨ n = 3 ∨ n = 4 by omega) with rfl | rfl | rfl | rfl <;> rfl
theorem nput_sh : ∀ o ∈ nputCode, OpSh nputCode.length o := by
  intro o ho
  simp only [nputCode, List.mem_cons, List.not_mem_nil, or_false] at ho
  repeat' (rcases ho with rfl | ho)
  all_goals first | exact ⟨by decide, by decide, by decide, by decide, by decide⟩ | (subst ho; exact ⟨by decide, by decide, by decide, by decide, by decide⟩)
theorem snst_put {n : Nat} {cs : List Int} {i : Nat} (hs : sskip n cs i = false) : (snst n cs (i + 1)).1 = upd (snst n cs i).1 (spart n cs i) ((snst n cs i).1 (spart n cs i) + 1) := by
  conv => lhs; unfold snst
  rw [if_neg (by rw [hs]; decide)]
/-- the counters in memory -/
def cntA (f : Nat → Nat) : Array Value := #[.int .i64 (f 0 : Int), .int .i64 (f 1 : Int), .int .i64 (f 2 : Int), .int .i64 (f 3 : Int)]
theorem cntA_at (f : Nat → Nat) {p : Nat} (hp : p < 4) : (cntA f)[p]? = some (.int .i64 (f p : Int)) := by
  rcases (show p = 0 ∨ p = 1 ∨ p = 2 ∨ p = 3 by omega) with rfl | rfl | rfl | rfl <;> rfl
theorem cntA_set (f : Nat → Nat) {p c : Nat} (hp : p < 4) : (cntA f).setIfInBounds p (.int .i64 ((c : Int) + 1)) = cntA (upd f p (c + 1)) := by
  rcases (show p = 0 ∨ p = 1 ∨ p = 2 ∨ p = 3 by omega) with rfl | rfl | rfl | rfl <;> rfl
theorem na_app {av : Nat → List SV} {Cn t : Nat} (h : ∀ j, j < 4 → ∀ a ∈ av j, a.v.ownBlock ≠ some Cn) {a0 : SV} (h0 : a0.v.ownBlock ≠ some Cn) : ∀ j, j < 4 → ∀ a ∈ (upd av t (av t ++ [a0])) j, a.v.ownBlock ≠ some Cn := by
  intro j hj a ha
  unfold upd at ha
  by_cases e : j = t
  · subst e
    rw [if_pos rfl] at ha
    rcases List.mem_append.1 ha with ha | ha
    · exact h j hj a ha
    · rw [List.mem_singleton.1 ha]; exact h0
  · rw [if_neg e] at ha
    exact h j hj a ha
section
variable {W0 w : World} {g0 : Nat} {cs0 : Array Value} {R X Cb T nc nt : Nat} {Wv : Value} {ws : List Int} {cv : Nat → Value} {ks : Nat → List Op5} {tv : Nat → Value} {th : Nat → List VCall} {av : Nat → List SV}
theorem MBun.store (h : MBun W0 w g0 cs0 R X Cb T nc nt Wv ws cv ks tv th av) {Cn p : Nat} {cs : Array Value} (hB : Blk w Cn 3 cs) (hge : W0.heap.size ≤ Cn) (hW : Wv.ownBlock ≠ some Cn) (hA : ∀ j, j < nt → ∀ a ∈ av j, a.v.ownBlock ≠ some Cn) (u : Value) :
    MBun W0 (w.setCell ⟨Cn, p, none⟩ u) g0 cs0 R X Cb T nc nt Wv ws cv ks tv th av := by
  have hS : Chg (fun k => k = Cn) w (w.setCell ⟨Cn, p, none⟩ u) := (Chg.refl (fun k => k = Cn) w).setCell (p := ⟨Cn, p, none⟩) (fun _ => rfl) _
  have bkey : ∀ {g t : Nat} {cs : Array Value}, t ≠ 3 → Blk w g t cs → Blk (w.setCell ⟨Cn, p, none⟩ u) g t cs := fun h1 h2 => hS.blk h2 fun e => by subst e; exact h1 (blk_ty h2 hB)
  have okey : ∀ {B' e sz n' : Nat} {v : Value} {xs : List Value}, e ≠ 3 → w.ownsRow B' e sz v n' xs → (w.setCell ⟨Cn, p, none⟩ u).ownsRow B' e sz v n' xs := fun h1 h2 => own_chg h2 hS fun k hk e => own_ne_blk h2 hB h1 (by rw [hk, e])
  refine ⟨h.below.setCell (p := ⟨Cn, p, none⟩) hge u, bkey (by decide) h.hg, bkey (by decide) h.hr, bkey (by decide) h.hx, own_chg h.own hS fun k hk e => hW (by rw [hk, e]), ⟨h.mn.geC, h.mn.geT, bkey (by decide) h.mn.cb, bkey (by decide) h.mn.tb, fun i hi => okey (by decide) (h.mn.os i hi), fun j' hj' => ?_, h.mn.dist⟩⟩
  obtain ⟨r1, r2, r3⟩ := h.mn.rows j' hj'
  exact ⟨r1, okey (by decide) r2, fun a b c ha hb => own_chg (r3 a b c ha hb) hS fun k hk e => hA j' hj' c (List.mem_of_getElem? hb) (by rw [hk, e])⟩
theorem MBun.ints (h : MBun W0 w g0 cs0 R X Cb T nc nt Wv ws cv ks tv th av) {j : Nat} (hj : j < nt) {wA w6 : World} (hb : Below w.heap.size w wA) (hG : wA.grownBy w6 (tv j).ownBlock) {Cn : Nat} {cs : Array Value} (hB : Blk w Cn 3 cs) : Blk w6 Cn 3 cs ∧ ∀ v', Blk (w6.setCell ⟨T, j, none⟩ v') Cn 3 cs := by
  obtain ⟨g1, g2⟩ := h.mn.grown hj hb hG
  exact ⟨g2 (by decide) hB, fun v' => (g2 (by decide) hB).far (p := ⟨T, j, none⟩) ((g2 (by decide) hB).ne_ g1 (by decide)) v'⟩
end
theorem sees3f {W w' : World} {p q r : Addr} {u v x : Value} (h : Below W.heap.size W w') (hp : W.cell? p = some u) (hq : W.cell? q = some v) (hf : W.frozen? q = false) (hr : W.cell? r = some x) : w'.cell? p = some u ∧ w'.frozen? q = false ∧ w'.cell? r = some x := ⟨cell_below h hp, frozen_below h hq hf, cell_below h hr⟩
theorem nmach_at {B : Nat} {w : World} {Cb T n : Nat} {cs : List Int} {cv tv : Nat → Value} {av : Nat → List SV} (h : MN B w 2 4 Cb T cv (fun i => [nputCode, nscanCode n].getD i []) tv (nth n cs 24 10 2) av) (h1 : 1 ≤ n) (h6 : n ≤ 4) : MachAt w (some ⟨Cb, 0, none⟩) 2 (some ⟨T, 0, none⟩) 4 (nmach n cs) := by
  refine h.at_ rfl rfl (fun i hi => ?_) (fun j hj => ?_)
  · rcases (show i = 0 ∨ i = 1 by omega) with rfl | rfl
    · exact ⟨by show nputCode.length ≤ 200; decide, nput_sh⟩
    · exact ⟨by show (nscanCode n).length ≤ 200; rw [nscan_len h1 h6]; omega, nscan_sh h1 h6⟩
  · exact ⟨Nat.le_trans (nth_len (by decide) (by decide)) (by decide), nth_mem⟩
def SnapPost (w : World) (n : Nat) (cs : List Int) (e : Ending) (w' : World) : Prop :=
  ∃ (AW : Option Addr) (cW Cb T : Nat) (cv tv : Nat → Value) (av : Nat → List SV), e = .returned (.tuple #[.agg #[(.slice AW n cW), .slice (some ⟨Cb, 0, none⟩) 2 2, .slice (some ⟨T, 0, none⟩) 4 4], .bool true]) ∧
    w'.ownsRow w.heap.size 3 1 (.slice AW n cW) n ((List.replicate n (0 : Int)).flatMap gI) ∧ MN w.heap.size w' 2 4 Cb T cv (fun i => [nputCode, nscanCode n].getD i []) tv (nth n cs 24 10 2) av ∧ Below w.heap.size w w'
set_option maxHeartbeats 8000000 in
set_option maxRecDepth 100000 in
theorem snap_machine (D : Option Addr) (r s n : Nat) (cs : List Int) (w : World) (h1 : 1 ≤ n) (h6 : n ≤ 4) (hr : r ≤ 9223372036854775807) (hD : Sl w 1 D r (ints cs)) (hcs : ∀ x ∈ cs, -9223372036854775808 ≤ x ∧ x ≤ 9223372036854775807) (hT : STab w) :
    Calls Tryd.prog 19 #[.int .i64 (n : Int), .slice D r s] w fun e w' => SnapPost w n cs e w' := by
  have HT := hid hT; have HDD := hid hD; have HCS := hid hcs
  have HRL := hid (show cs.length = r from hD.leni)
  have HWL := hid (show (List.replicate n (0 : Int)).length = n by rw [List.length_replicate])
  clear hT hD hcs
  go_enter Tryd.func19, Tryd.ntmps19
  go_wp2_with fail
  have HG := hid (Blk.new w 29 #[.slice none 0 0, .slice none 0 0, .slice none 0 0])
  have B0 := hid (bnew (bnil w) (.cells #[.slice none 0 0, .slice none 0 0, .slice none 0 0] 29))
  generalize World.alloc w (.cells #[.slice none 0 0, .slice none 0 0, .slice none 0 0] 29) = w0 at *
  refine (snap_words n w0 h1 h6).mono ?_
  rintro e w1 ⟨v1, rfl, o1⟩
  obtain ⟨AW, cW, rfl, hcW, hcW2⟩ := o1.form
  rw [HWL.out] at hcW ⊢
  have OW1 := hid (show w1.ownsRow w0.heap.size 3 1 (.slice AW n cW) n ((List.replicate n (0 : Int)).flatMap gI) by have h := o1.own; rw [HWL.out] at h; exact h)
  have BW1 := hid o1.below
  clear o1
  go_wp2_with fail
  refine (snap_put n w1 h1 h6).mono ?_
  rintro e w2 ⟨v2, rfl, o2⟩
  obtain ⟨A1, c1, rfl, hc1, hc12⟩ := o2.form
  obtain ⟨L1, hL1⟩ : ∃ L, nputCode.length = L := ⟨_, rfl⟩
  have O2 := hid o2
  rw [hL1] at O2 hc1 ⊢
  have HL1 := hid hL1
  clear o2 hL1
  go_wp2_with fail
  refine (snap_scan n w2 h1 h6).mono ?_
  rintro e w3 ⟨v3, rfl, o3⟩
  obtain ⟨A2, c2, rfl, hc2, hc22⟩ := o3.form
  obtain ⟨L2, hL2⟩ : ∃ L, (nscanCode n).length = L := ⟨_, rfl⟩
  have O3 := hid o3
  rw [hL2] at O3 hc2 ⊢
  have HL2 := hid hL2
  clear o3 hL2
  have B13 := hid (bgo (bgo BW1.out O2.out.below) O3.out.below)
  have B3 := hid (bgo B0.out B13.out)
  have HG3 := hid (HG.out.below' B13.out)
  have HW3 := hid (own_below (own_lower OW1.out B0.out.size) (bgo O2.out.below O3.out.below))
  have HC1 := hid (own_below (own_lower O2.out.own (bgo B0.out BW1.out).size) O3.out.below)
  have HC2 := hid (own_lower O3.out.own (bgo (bgo B0.out BW1.out) O2.out.below).size)
  clear HG B0 OW1 BW1 O2 O3 B13
  have hl1 := nput_len
  have hl2 := nscan_len h1 h6
  rw [HL1.out] at hl1
  rw [HL2.out] at hl2
  have jl1 : ((L1 : Int) == 0) = false := beqF (by omega)
  have jl2 : ((L2 : Int) == 0) = false := beqF (by omega)
  have il1 : ¬ ((L1 : Int) = 0) := by omega
  have il2 : ¬ ((L2 : Int) = 0) := by omega
  have HLL := hid (And.intro hl1 hl2)
  clear hl1 hl2
  obtain ⟨Cb, hCb⟩ : ∃ Cb, w3.heap.size = Cb := ⟨_, rfl⟩
  have hmk := mkT4 (w3.alloc (.cells #[.slice A1 L1 c1, .slice A2 L2 c2] 60))
  have BE := bnew (bnew (bnew (bnil w3) (.cells #[.slice A1 L1 c1, .slice A2 L2 c2] 60)) (.cells #[.slice none 0 0, .slice none 0 0, .slice none 0 0, .slice none 0 0] 33)) (.cells #[.slice AW n cW, .slice (some ⟨Cb, 0, none⟩) 2 2, .slice (some ⟨Cb + 1, 0, none⟩) 4 4] 29)
  have HCB := hid ((blkN w3 60 #[.slice A1 L1 c1, .slice A2 L2 c2] Cb hCb).below' (bnew (bnew (bnil _) (.cells #[.slice none 0 0, .slice none 0 0, .slice none 0 0, .slice none 0 0] 33)) (.cells #[.slice AW n cW, .slice (some ⟨Cb, 0, none⟩) 2 2, .slice (some ⟨Cb + 1, 0, none⟩) 4 4] 29)))
  have HTB := hid ((blkN (w3.alloc (.cells #[.slice A1 L1 c1, .slice A2 L2 c2] 60)) 33 #[.slice none 0 0, .slice none 0 0, .slice none 0 0, .slice none 0 0] (Cb + 1) (by rw [World.size_alloc, hCb])).below' (bnew (bnil _) (.cells #[.slice AW n cW, .slice (some ⟨Cb, 0, none⟩) 2 2, .slice (some ⟨Cb + 1, 0, none⟩) 4 4] 29)))
  have HXB := hid (blkN ((w3.alloc (.cells #[.slice A1 L1 c1, .slice A2 L2 c2] 60)).alloc (.cells #[.slice none 0 0, .slice none 0 0, .slice none 0 0, .slice none 0 0] 33)) 29 #[.slice AW n cW, .slice (some ⟨Cb, 0, none⟩) 2 2, .slice (some ⟨Cb + 1, 0, none⟩) 4 4] (Cb + 2) (by rw [World.size_alloc, World.size_alloc, hCb]))
  have B3E := hid BE
  clear BE
  go_upto_region 7 with fail
  have hBC : w.heap.size ≤ Cb := by rw [← hCb]; exact B3.out.size
  have BW := hid (bgo B3.out B3E.out)
  have HGE := hid (HG3.out.below' B3E.out)
  have HWE := hid (own_below HW3.out B3E.out)
  have HC1E := hid (own_below HC1.out B3E.out)
  have HC2E := hid (own_below HC2.out B3E.out)
  clear hmk B3 HG3 HW3 HC1 HC2 B3E hCb
  generalize World.alloc (World.alloc (World.alloc w3 _) _) _ = wE at *
  obtain ⟨T, hT⟩ : ∃ T, Cb + 1 = T := ⟨_, rfl⟩
  rw [hT] at HTB HXB ⊢
  obtain ⟨X, hX⟩ : ∃ X, T + 1 = X := ⟨_, rfl⟩
  rw [hX]
  rw [show Cb + 2 = X by omega] at HXB
  have hTw : w.heap.size ≤ T := by omega
  have hXR : X ≠ w.heap.size := by omega
  have BU := hid (show MBun w wE w.heap.size nil3 w.heap.size X Cb T 2 4 (.slice AW n cW) (List.replicate n (0 : Int)) (fun i => [.slice A1 L1 c1, .slice A2 L2 c2].getD i undef) (fun i => [nputCode, nscanCode n].getD i []) _ (nth n cs 0 0 2) (fun _ => []) from
    ⟨BW.out, HGE.out, HGE.out, HXB.out, by rw [HWL.out]; exact HWE.out, by
      rw [nth_zero]
      exact MN.start (v := fun _ => undef) hBC hTw HCB.out HTB.out (fun i hi => (by
        rcases (show i = 0 ∨ i = 1 by omega) with rfl | rfl
        · have h := HC1E.out; rw [HL1.out] at h; show wE.ownsRow w.heap.size 99 5 (.slice A1 L1 c1) nputCode.length _; rw [HL1.out]; exact h
        · have h := HC2E.out; rw [HL2.out] at h; show wE.ownsRow w.heap.size 99 5 (.slice A2 L2 c2) (nscanCode n).length _; rw [HL2.out]; exact h))⟩)
  clear BW HGE HXB HWE HCB HTB HC1E HC2E hT hX hBC
  obtain ⟨qs, hqs, hmk⟩ := mk_intsL wE 4 (by decide)
  have hmk : (Instr.makeSlice 25 (.int .i64 4) (.int .i64 4)).run Tryd.prog wE = .ok (.slice (some ⟨wE.heap.size, 0, none⟩) 4 4) (wE.alloc (.cells qs 3)) := hmk
  have hq4 : qs = #[.int .i64 0, .int .i64 0, .int .i64 0, .int .i64 0] := by
    apply Array.ext'
    rw [hqs]
    rfl
  subst hq4
  clear hqs
  obtain ⟨Cn, hCn⟩ : ∃ Cn, wE.heap.size = Cn := ⟨_, rfl⟩
  go_upto_region 8 with fail
  obtain ⟨wC, hwC⟩ : ∃ wC, wE.alloc (.cells #[.int .i64 0, .int .i64 0, .int .i64 0, .int .i64 0] 3) = wC := ⟨_, rfl⟩
  have HCN := hid (show Blk wC Cn 3 (cntA (snst n cs 0).1) by rw [← hwC]; exact blkN wE 3 #[.int .i64 0, .int .i64 0, .int .i64 0, .int .i64 0] Cn hCn)
  have hbC := bnew (bnil wE) (.cells #[.int .i64 0, .int .i64 0, .int .i64 0, .int .i64 0] 3)
  rw [hwC] at hbC ⊢
  have hNW : (Value.slice AW n cW).ownBlock ≠ some Cn := fun e => by have := (own_ge BU.out.own Cn e).2; omega
  have HNW := hid hNW
  have HGE := hid (show w.heap.size ≤ Cn by rw [← hCn]; exact BU.out.below.size)
  have BU2 := hid (BU.out.step hbC)
  have HNA := hid (show ∀ j, j < 4 → ∀ a ∈ (fun _ => [] : Nat → List SV) j, a.v.ownBlock ≠ some Cn from fun j _ a ha => by cases ha)
  try rw [hCn]
  clear hwC hbC BU hmk hCn hNW
  go_wp2_with fail
  go_loopw [14] (fun v wx => ∃ (i : Nat) (tv : Nat → Value) (av : Nat → List SV), i ≤ 24 ∧ v = .int .i64 i ∧ Hid (MBun w wx w.heap.size nil3 w.heap.size X Cb T 2 4 (.slice AW n cW) (List.replicate n (0 : Int)) (fun i => [.slice A1 L1 c1, .slice A2 L2 c2].getD i undef) (fun i => [nputCode, nscanCode n].getD i []) tv (nth n cs i 0 2) av) ∧ Hid (Blk wx Cn 3 (cntA (snst n cs i).1)) ∧ Hid (∀ j, j < 4 → ∀ a ∈ av j, a.v.ownBlock ≠ some Cn)) (fun v _ => 24 - (intOf v).toNat)
  case atStart => exact ⟨0, _, _, Nat.zero_le _, rfl, BU2, HCN, HNA⟩
  case round =>
    clear BU2 HCN HNA
    obtain ⟨i, tv, av, hi24, rfl, HX, HCN, HNA⟩ := hrel
    by_cases hlt : i < 24
    · have i1 : (i : Int) < 24 := by omega
      obtain ⟨kk, hkk⟩ : ∃ kk, skk cs i = kk := ⟨_, rfl⟩
      have hkk2 : kk < 2 := by rw [← hkk]; exact skk_lt cs i
      have HKK := hid hkk
      clear hkk
      go_upto_if 68 with fail
      go_cut [15] (fun v wx => v = .int .i64 (kk : Int) ∧ wx = wr)
      case first =>
        by_cases h2 : i < r
        · have i3 : (i : Int) < (r : Int) := by omega
          have hkl : i < cs.length := by rw [HRL.out]; exact h2
          obtain ⟨x, hx⟩ : ∃ x, cs[i]? = some x := ⟨_, List.getElem?_eq_getElem hkl⟩
          obtain ⟨ad, e, hc⟩ := HDD.out.2 (by omega)
          subst e
          have hh := flatMap_at gI 1 (fun _ => rfl) cs i 0 x hx (by decide)
          rw [Nat.mul_one, Nat.add_zero] at hh
          have cx := cell_below HX.out.below (hc i _ (by rw [show ints cs = cs.flatMap gI from rfl] at *; rw [hh]; rfl))
          have hxb := HCS.out x (List.mem_of_getElem? hx)
          have hpk : pk x 2 = kk := by
            rw [← HKK.out]; unfold skk
            rw [if_pos hkl, List.getD_eq_getElem?_getD, hx]; rfl
          have HPK := hid hpk
          clear hc hh hx hkl hpk
          go_wp2_with fail
          refine (picked x 2 wr (by decide) hxb.1 hxb.2 (by decide)).mono ?_
          rintro e w' ⟨rfl, rfl⟩
          rw [HPK.out]
          go_wp2_with fail
          go_meet
          exact ⟨rfl, rfl⟩
        · have i3 : ¬ (i : Int) < (r : Int) := by omega
          have hk0 : kk = 0 := by rw [← HKK.out]; unfold skk; rw [if_neg (by rw [HRL.out]; exact h2)]
          subst hk0
          go_wp2_with fail
          go_meet
          exact ⟨rfl, rfl⟩
      case rest =>
        obtain ⟨rfl, hwc⟩ := hcut
        obtain ⟨wo, hwo⟩ : ∃ wo, wo = wr := ⟨_, rfl⟩
        rw [hwc, ← hwo]
        rw [← hwo] at HX HCN
        clear hwc hwo
        obtain ⟨t, ht⟩ : ∃ t, i % 2 = t := ⟨_, rfl⟩
        have ht2 : t < 2 := by omega
        have m2 : (i : Int) % 2 = (t : Int) := by omega
        have HT2 := hid ht
        have hps : spart n cs i = if n ≤ 2 * t + kk then 0 else 2 * t + kk := by unfold spart; rw [ht, HKK.out]
        have hss : sskip n cs i = (decide (n ≤ 2 * t + kk) && t == 1) := by unfold sskip; rw [ht, HKK.out]
        have HPS := hid hps; have HSS := hid hss
        clear ht hps hss
        by_cases hs : sskip n cs i = true
        · have hs2 := HSS.out
          rw [hs] at hs2
          have hs3 := Bool.and_eq_true_iff.1 hs2.symm
          have h5 : n ≤ 2 * t + kk := of_decide_eq_true hs3.1
          have h6t : t = 1 := eq_of_beq hs3.2
          have q1 : (n : Int) ≤ 2 * (t : Int) + (kk : Int) := by omega
          have q2 : ((t : Int) == 1) = true := by rw [h6t]; rfl
          have HNS := hid (nth_skip hs)
          clear hs hs2 hs3 h5 h6t
          go_wp2_with fail
          go_roundw
          case rel => exact ⟨i + 1, tv, av, by omega, by go_num, hid (by have h := HX.out; unfold nth at h ⊢; rw [HNS.out]; exact h), hid (by rw [HNS.out]; exact HCN.out), HNA⟩
          case measure => simp [intOf]; omega
        · have hs : sskip n cs i = false := by simpa using hs
          have hs2 := HSS.out
          rw [hs] at hs2
          obtain ⟨part, hpart⟩ : ∃ p, spart n cs i = p := ⟨_, rfl⟩
          have hp4 := spart_lt h1 h6 cs i
          rw [hpart] at hp4
          have HPT := hid hpart
          have HNP := hid (nth_put hs)
          have HSF := hid hs
          have hpe := HPS.out
          rw [hpart] at hpe
          clear hs hpart
          go_upto_if 81 with fail
          go_cut [16] (fun v wx => v = .int .i64 (part : Int) ∧ wx = wo)
          case first =>
            by_cases h5 : n ≤ 2 * t + kk
            · have q1 : (n : Int) ≤ 2 * (t : Int) + (kk : Int) := by omega
              rw [if_pos h5] at hpe
              subst hpe
              have h6t : t = 0 := by
                have h9 : decide (n ≤ 2 * t + kk) = true := decide_eq_true h5
                rw [h9] at hs2
                have h8 : (t == 1) = false := by simpa using hs2.symm
                have : t ≠ 1 := by intro e; rw [e] at h8; cases h8
                omega
              have q2 : ((t : Int) == 1) = false := beqF (by omega)
              clear hs2 h5 h6t
              go_wp2_with fail
              go_meet
              exact ⟨rfl, rfl⟩
            · have q1 : ¬ (n : Int) ≤ 2 * (t : Int) + (kk : Int) := by omega
              rw [if_neg h5] at hpe
              clear hs2 h5
              go_wp2_with fail
              go_meet
              exact ⟨by rw [hpe]; rfl, rfl⟩
          case rest =>
            obtain ⟨rfl, hwc⟩ := hcut
            rw [hwc]
            clear hwc hs2 hpe
            obtain ⟨cnt, hcnt⟩ : ∃ c, (snst n cs i).1 part = c := ⟨_, rfl⟩
            have hc24 : cnt ≤ i := by rw [← hcnt]; exact snst_cnt n cs i part
            have hcell : wo.cell? ⟨Cn, part, none⟩ = some (.int .i64 (cnt : Int)) := by rw [HCN.out.cell part, cntA_at _ hp4.2, hcnt]
            have hfr := HCN.out.frozen part
            have HCN2 := hid (show Blk (wo.setCell ⟨Cn, part, none⟩ (.int .i64 ((cnt : Int) + 1))) Cn 3 (cntA (snst n cs (i + 1)).1) by
              have h := HCN.out.set_ part (.int .i64 ((cnt : Int) + 1))
              rw [cntA_set _ hp4.2, ← hcnt, ← HPT.out, ← snst_put HSF.out] at h
              rw [← hcnt, ← HPT.out]
              exact h)
            have HX2 := hid (HX.out.store (p := part) HCN.out HGE.out HNW.out HNA.out (.int .i64 ((cnt : Int) + 1)))
            have HNQ := hid (show upd (nth n cs i 0 2) t (nth n cs i 0 2 t ++ [⟨0, [(part : Int), (cnt : Int) + 1]⟩]) = nth n cs (i + 1) 0 2 by have h := HNP.out; rw [HT2.out, HPT.out, hcnt] at h; exact h)
            have HCC := hid (show ∀ w', Blk w' Cn 3 (cntA (snst n cs (i + 1)).1) → w'.cell? ⟨Cn, part, none⟩ = some (.int .i64 ((cnt : Int) + 1)) from fun w' h => by
              rw [h.cell part, cntA_at _ hp4.2, snst_put HSF.out, HPT.out, hcnt]
              unfold upd; rw [if_pos rfl]; rfl)
            clear hcnt
            go_upto_region 19 with fail
            obtain ⟨wS, hwS⟩ : ∃ wS, wo.setCell ⟨Cn, part, none⟩ (.int .i64 ((cnt : Int) + 1)) = wS := ⟨_, rfl⟩
            rw [hwS] at HCN2 HX2 ⊢
            clear hwS hcell hfr HCN HX
            have HCN := HCN2; have HX := HX2
            clear HCN2 HX2
            have ct := HCC.out _ HCN.out
            have HLN := hid (show (nth n cs i 0 2 t).length ≤ 20 from Nat.le_trans (nth_len hi24 (by decide)) (by decide))
            have HLTC := hid HCN.out.lt
            have ip4 : (part : Int) < 4 := by omega
            have it4 : (t : Int) < 4 := by omega
            have it0 : (0 : Int) ≤ (t : Int) := by omega
            have mt : (i : Int).tmod 2 = (t : Int) := by rw [Int.tmod_eq_emod_of_nonneg (by omega)]; exact m2
            have HOF := hid (show ∀ (LIT : Obj) (k' : Nat) (c : VCall) (a : SV), ([⟨0, [(part : Int), (cnt : Int) + 1]⟩] : List VCall)[k']? = some c → ([⟨some ⟨wS.heap.size, 0, none⟩, 2, 2⟩] : List SV)[k']? = some a → (((wS.alloc (.cells #[.int .i64 (part : Int), .int .i64 ((cnt : Int) + 1)] 3)).alloc LIT).drew).ownsRow w.heap.size 3 1 a.v c.args.length (c.args.flatMap gI) from by
              intro LIT k' c a hc ha
              have hge : w.heap.size ≤ wS.heap.size := HX.out.below.size
              match k', hc, ha with
              | 0, hc, ha =>
                injection hc with hc; injection ha with ha; subst hc ha
                have hB : Blk (((wS.alloc (.cells #[.int .i64 (part : Int), .int .i64 ((cnt : Int) + 1)] 3)).alloc LIT).drew) (wS.heap.size) 3 #[.int .i64 (part : Int), .int .i64 ((cnt : Int) + 1)] := (Blk.new wS _ _).alloc _
                exact ⟨rfl, .inr ⟨wS.heap.size, 2, #[.int .i64 (part : Int), .int .i64 ((cnt : Int) + 1)], rfl, by omega, hB, Nat.le_refl _, by unfold maxLen; omega, rfl, rfl⟩⟩
              | k + 1, hc, ha => cases hc)
            obtain ⟨Aj, cj, hAj, HR0⟩ := HX.out.row (j := t) (by omega)
            obtain ⟨L, hL⟩ : ∃ L, ((nth n cs i 0 2) t).length = L := ⟨_, rfl⟩
            rw [hL] at hAj HR0
            have hL18 : L ≤ 20 := by rw [← hL]; exact HLN.out
            obtain ⟨y, hy⟩ : ∃ y, ((nth n cs i 0 2) t).zip (av t) ++ [((⟨0, [(part : Int), (cnt : Int) + 1]⟩ : VCall), (⟨some ⟨wS.heap.size, 0, none⟩, 2, 2⟩ : SV))] = y := ⟨_, rfl⟩
            have HYE := hid hy
            have HYL := hid (show y.length = L + 1 by rw [← hy, List.length_append, HR0.len]; rfl)
            have HR := hid HR0
            have HAJ := hid hAj
            have c2x := HR.out.c2; have c3 := HR.out.c3; have f3 := HR.out.f3; have hcj := HR.out.hcj; have hcm := HR.out.hcm
            unfold maxLen at hcm
            clear hy HR0 hAj hL
            have ltT := World.block_lt_of_cell? wS _ c3
            have ltX := World.block_lt_of_cell? wS _ c2x
            have ltT1 : T < wS.heap.size + 1 := Nat.lt_succ_of_lt ltT
            have hq3 : ∀ o1 o2 : Obj, ((wS.alloc o1).alloc o2).cell? ⟨T, t, none⟩ = some (.slice Aj L cj) := fun o1 o2 => cell_below (bnew (bnew (bnil wS) o1) o2) c3
            go_upto_region 19 with fail
            refine wp_region_held_drew (S := (fun w' => w'.cell? ⟨X, 2, none⟩ = some (.slice (some ⟨T, 0, none⟩) 4 4) ∧ w'.frozen? ⟨T, t, none⟩ = false ∧ w'.cell? ⟨Cn, part, none⟩ = some (.int .i64 ((cnt : Int) + 1)))) (by kernel_rfl) ?_ (fun hHeld => ?_)
            · (try dsimp only); (first | assumption | exact ⟨c2x, f3, ct⟩ | exact ⟨HZ.1.1, HZ.1.2, HCZ.out.1⟩ | exact ⟨(HZ.2.2 _).1, (HZ.2.2 _).2, HCZ.out.2 _⟩ | (refine sees3f ?_ c2x c3 f3 ct; (repeat (first | exact bnil _ | refine Below.drew ?_ | refine bnew ?_ _))))
            refine wpAnyH_take (i := 0) (oi := ⟨some 91, _, _, _, _, _⟩) (v := ?_) rfl (by kernel_rfl) (by kernel_rfl) (by kernel_rfl) (fun _ _ _ h => h) (Or.inl ⟨by rfl, ?_⟩) (by assumption) ?_
            rotate_left
            · intro w hSw; (try dsimp only at hSw); go_simp <;> with_reducible rfl
            try simp only [Act.put, List.setIfInBounds_toArray, List.set_cons_zero, List.set_cons_succ]
            refine wpAnyH_take (i := 1) (oi := ⟨some 92, _, _, _, _, _⟩) (v := ?_) rfl (by kernel_rfl) (by kernel_rfl) (by kernel_rfl) (fun _ _ _ h => h) (Or.inl ⟨by rfl, ?_⟩) (by assumption) ?_
            rotate_left
            · intro w hSw; (try dsimp only at hSw); go_simp <;> with_reducible rfl
            try simp only [Act.put, List.setIfInBounds_toArray, List.set_cons_zero, List.set_cons_succ]
            refine wpAnyH_take (i := 2) (oi := ⟨some 93, _, _, _, _, _⟩) (v := ?_) rfl (by kernel_rfl) (by kernel_rfl) (by kernel_rfl) (fun _ _ _ h => h) (Or.inl ⟨by rfl, ?_⟩) (by assumption) ?_
            rotate_left
            · intro w hSw; (try dsimp only at hSw); go_simp <;> with_reducible rfl
            try simp only [Act.put, List.setIfInBounds_toArray, List.set_cons_zero, List.set_cons_succ]
            refine wpAnyH_take (i := 3) (oi := ⟨some 94, _, _, _, _, _⟩) (v := ?_) rfl (by kernel_rfl) (by kernel_rfl) (by kernel_rfl) (fun _ _ _ h => h) (Or.inl ⟨by rfl, ?_⟩) (by assumption) ?_
            rotate_left
            · intro w hSw; (try dsimp only at hSw); go_simp <;> with_reducible rfl
            try simp only [Act.put, List.setIfInBounds_toArray, List.set_cons_zero, List.set_cons_succ]
            refine wpAnyH_take (i := 4) (oi := ⟨some 95, _, _, _, _, _⟩) (v := ?_) rfl (by kernel_rfl) (by kernel_rfl) (by kernel_rfl) (fun _ _ _ h => h) (Or.inl ⟨by rfl, ?_⟩) (by assumption) ?_
            rotate_left
            · intro w hSw; (try dsimp only at hSw); go_simp <;> with_reducible rfl
            try simp only [Act.put, List.setIfInBounds_toArray, List.set_cons_zero, List.set_cons_succ]
            refine wpAnyH_take (i := 5) (oi := ⟨some 96, _, _, _, _, _⟩) (v := ?_) rfl (by kernel_rfl) (by kernel_rfl) (by kernel_rfl) (fun _ _ _ h => h) (Or.inl ⟨by rfl, ?_⟩) (by assumption) ?_
            rotate_left
            · intro w hSw; (try dsimp only at hSw); go_simp <;> with_reducible rfl
            try simp only [Act.put, List.setIfInBounds_toArray, List.set_cons_zero, List.set_cons_succ]
            refine wpAnyH_take (i := 6) (oi := ⟨some 97, _, _, _, _, _⟩) (v := ?_) rfl (by kernel_rfl) (by kernel_rfl) (by kernel_rfl) (fun _ _ _ h => h) (Or.inl ⟨by rfl, ?_⟩) (by assumption) ?_
            rotate_left
            · intro w hSw; (try dsimp only at hSw); go_simp <;> with_reducible rfl
            try simp only [Act.put, List.setIfInBounds_toArray, List.set_cons_zero, List.set_cons_succ]
            refine wpAnyH_take (i := 7) (oi := ⟨some 98, _, _, _, _, _⟩) (v := ?_) rfl (by kernel_rfl) (by kernel_rfl) (by kernel_rfl) (fun _ _ _ h => h) (Or.inl ⟨by rfl, ?_⟩) (by assumption) ?_
            rotate_left
            · intro w hSw; (try dsimp only at hSw); go_simp <;> with_reducible rfl
            try simp only [Act.put, List.setIfInBounds_toArray, List.set_cons_zero, List.set_cons_succ]
            refine wpAnyH_take (i := 8) (oi := ⟨some 99, _, _, _, _, _⟩) (v := ?_) rfl (by kernel_rfl) (by kernel_rfl) (by kernel_rfl) (fun _ _ _ h => h) (Or.inl ⟨by rfl, ?_⟩) (by assumption) ?_
            rotate_left
            · intro w hSw; (try dsimp only at hSw); go_simp <;> with_reducible rfl
            try simp only [Act.put, List.setIfInBounds_toArray, List.set_cons_zero, List.set_cons_succ]
            refine wpAnyH_take (i := 10) (oi := ⟨some 101, _, _, _, _, _⟩) (v := ?_) rfl (by kernel_rfl) (by kernel_rfl) (by kernel_rfl) (fun _ _ _ h => h) (Or.inl ⟨by rfl, ?_⟩) (by assumption) ?_
            rotate_left
            · intro w hSw; (try dsimp only at hSw); go_simp <;> with_reducible rfl
            try simp only [Act.put, List.setIfInBounds_toArray, List.set_cons_zero, List.set_cons_succ]
            refine wpAnyH_take (i := 11) (oi := ⟨some 102, _, _, _, _, _⟩) (v := ?_) rfl (by kernel_rfl) (by kernel_rfl) (by kernel_rfl) (fun _ _ _ h => h) (Or.inl ⟨by rfl, ?_⟩) (by assumption) ?_
            rotate_left
            · intro w hSw; (try dsimp only at hSw); go_simp <;> with_reducible rfl
            try simp only [Act.put, List.setIfInBounds_toArray, List.set_cons_zero, List.set_cons_succ]
            refine wpAnyH_take (i := 12) (oi := ⟨some 103, _, _, _, _, _⟩) (v := ?_) rfl (by kernel_rfl) (by kernel_rfl) (by kernel_rfl) (fun _ _ _ h => h) (Or.inl ⟨by rfl, ?_⟩) (by assumption) ?_
            rotate_left
            · intro w hSw; (try dsimp only at hSw); go_simp <;> with_reducible rfl
            try simp only [Act.put, List.setIfInBounds_toArray, List.set_cons_zero, List.set_cons_succ]
            refine wpAnyH_take (i := 13) (oi := ⟨some 104, _, _, _, _, _⟩) (v := ?_) rfl (by kernel_rfl) (by kernel_rfl) (by kernel_rfl) (fun _ _ _ h => h) (Or.inl ⟨by rfl, ?_⟩) (by assumption) ?_
            rotate_left
            · intro w hSw; (try dsimp only at hSw); go_simp <;> with_reducible rfl
            try simp only [Act.put, List.setIfInBounds_toArray, List.set_cons_zero, List.set_cons_succ]
            refine wpAnyH_take (i := 14) (oi := ⟨some 105, _, _, _, _, _⟩) (v := ?_) rfl (by kernel_rfl) (by kernel_rfl) (by kernel_rfl) (fun _ _ _ h => h) (Or.inl ⟨by rfl, ?_⟩) (by assumption) ?_
            rotate_left
            · intro w hSw; (try dsimp only at hSw); go_simp <;> with_reducible rfl
            try simp only [Act.put, List.setIfInBounds_toArray, List.set_cons_zero, List.set_cons_succ]
            refine wpAnyH_ready (rs := [9, 15]) (by kernel_rfl) (by simp) ?_
            refine AllReadyH.cons (o := ⟨some 100, _, _, _, _, _⟩) rfl (fun K hK => ?_) ?_
            go_simp
            refine hK.out _ _ ?_ (fun hHeld => ?_)
            · (try dsimp only); (first | assumption | exact ⟨c2x, f3, ct⟩ | exact ⟨HZ.1.1, HZ.1.2, HCZ.out.1⟩ | exact ⟨(HZ.2.2 _).1, (HZ.2.2 _).2, HCZ.out.2 _⟩ | (refine sees3f ?_ c2x c3 f3 ct; (repeat (first | exact bnil _ | refine Below.drew ?_ | refine bnew ?_ _))))
            clear hK K
            try simp only [Act.put, List.setIfInBounds_toArray, List.set_cons_zero, List.set_cons_succ]
            refine wpAnyH_ready (rs := [15]) (by kernel_rfl) (by simp) ?_
            refine AllReadyH.cons (o := ⟨some 106, _, _, _, _, _⟩) rfl (fun K hK => ?_) AllReadyH.nil
            go_simp
            refine hK.out _ _ ?_ (fun hHeld => ?_)
            · (try dsimp only); (first | assumption | exact ⟨c2x, f3, ct⟩ | exact ⟨HZ.1.1, HZ.1.2, HCZ.out.1⟩ | exact ⟨(HZ.2.2 _).1, (HZ.2.2 _).2, HCZ.out.2 _⟩ | (refine sees3f ?_ c2x c3 f3 ct; (repeat (first | exact bnil _ | refine Below.drew ?_ | refine bnew ?_ _))))
            clear hK K
            try simp only [Act.put, List.setIfInBounds_toArray, List.set_cons_zero, List.set_cons_succ]
            refine wpAnyH_take (i := 16) (oi := ⟨some 107, _, _, _, _, _⟩) (v := ?_) rfl (by kernel_rfl) (by kernel_rfl) (by kernel_rfl) (fun _ _ _ h => h) (Or.inl ⟨by rfl, ?_⟩) (by assumption) ?_
            rotate_left
            · intro w hSw; (try dsimp only at hSw); go_simp <;> with_reducible rfl
            try simp only [Act.put, List.setIfInBounds_toArray, List.set_cons_zero, List.set_cons_succ]
            refine wpAnyH_ready (rs := [17]) (by kernel_rfl) (by simp) ?_
            refine AllReadyH.cons (o := ⟨some 108, _, _, _, _, _⟩) rfl (fun K hK => ?_) AllReadyH.nil
            go_simp
            refine hK.out _ _ ?_ (fun hHeld => ?_)
            · (try dsimp only); (first | assumption | exact ⟨c2x, f3, ct⟩ | exact ⟨HZ.1.1, HZ.1.2, HCZ.out.1⟩ | exact ⟨(HZ.2.2 _).1, (HZ.2.2 _).2, HCZ.out.2 _⟩ | (refine sees3f ?_ c2x c3 f3 ct; (repeat (first | exact bnil _ | refine Below.drew ?_ | refine bnew ?_ _))))
            clear hK K
            try simp only [Act.put, List.setIfInBounds_toArray, List.set_cons_zero, List.set_cons_succ]
            refine wpAnyH_ready (rs := [18]) (by kernel_rfl) (by simp) ?_
            refine AllReadyH.cons (o := ⟨some 109, _, _, _, _, _⟩) rfl (fun K hK => ?_) AllReadyH.nil
            (refine step_appC elmCN gS_one rfl (.tmp 100) (.tmp 108) rfl (.slice Aj L cj) (((nth n cs i 0 2) t).zip (av t)) rfl (HR.out.row _ (bnew (bnew (bnil _) _) _).drew) [((⟨0, [(part : Int), (cnt : Int) + 1]⟩ : VCall), (⟨some ⟨wS.heap.size, 0, none⟩, 2, 2⟩ : SV))] y HYE rfl (Sl.drew (Sl.fresh' _ #[_, _] 35 2 1 _ (by simp) rfl)) rfl (by rw [HYL.out]; simp only [maxLen]; omega) (by rw [HYL.out]; omega) (Nat.le_trans HR.out.size (bnew (bnew (bnil _) _) _).drew.size) ?_; intro E6 c6 w6 hc6 hc7 HN6 HG6 HO6; have HZ := HR.out.grow _ w6 (bnew (bnew (bnil _) _) _).drew HG6.out; have HIZ := hid (HX.out.ints (j := t) (by omega) (bnew (bnew (bnil _) _) _).drew (by rw [HAJ.out]; exact HG6.out) HCN.out); have HCZ := hid (show w6.cell? ⟨Cn, part, none⟩ = some (.int .i64 ((cnt : Int) + 1)) ∧ ∀ v', (w6.setCell ⟨T, t, none⟩ v').cell? ⟨Cn, part, none⟩ = some (.int .i64 ((cnt : Int) + 1)) from ⟨HCC.out _ HIZ.out.1, fun v' => HCC.out _ (HIZ.out.2 v')⟩))
            refine hK.out _ _ ?_ (fun hHeld => ?_)
            · (try dsimp only); (first | assumption | exact ⟨c2x, f3, ct⟩ | exact ⟨HZ.1.1, HZ.1.2, HCZ.out.1⟩ | exact ⟨(HZ.2.2 _).1, (HZ.2.2 _).2, HCZ.out.2 _⟩ | (refine sees3f ?_ c2x c3 f3 ct; (repeat (first | exact bnil _ | refine Below.drew ?_ | refine bnew ?_ _))))
            clear hK K
            try simp only [Act.put, List.setIfInBounds_toArray, List.set_cons_zero, List.set_cons_succ]
            refine wpAnyH_take (i := 19) (oi := ⟨some 110, _, _, _, _, _⟩) (v := ?_) rfl (by kernel_rfl) (by kernel_rfl) (by kernel_rfl) (fun _ _ _ h => h) (Or.inl ⟨by rfl, ?_⟩) (by assumption) ?_
            rotate_left
            · intro w hSw; (try dsimp only at hSw); go_simp <;> with_reducible rfl
            try simp only [Act.put, List.setIfInBounds_toArray, List.set_cons_zero, List.set_cons_succ]
            refine wpAnyH_ready (rs := [20]) (by kernel_rfl) (by simp) ?_
            refine AllReadyH.cons (o := ⟨none, _, _, _, _, _⟩) rfl (fun K hK => ?_) AllReadyH.nil
            go_simp
            refine hK.out _ _ ?_ (fun hHeld => ?_)
            · (try dsimp only); (first | assumption | exact ⟨c2x, f3, ct⟩ | exact ⟨HZ.1.1, HZ.1.2, HCZ.out.1⟩ | exact ⟨(HZ.2.2 _).1, (HZ.2.2 _).2, HCZ.out.2 _⟩ | (refine sees3f ?_ c2x c3 f3 ct; (repeat (first | exact bnil _ | refine Below.drew ?_ | refine bnew ?_ _))))
            clear hK K
            try dsimp only [Act.put]
            refine wpAnyH_done (by kernel_rfl) ?_ _
            rotate_left
            refine AllReadyH.cons (o := ⟨some 106, _, _, _, _, _⟩) rfl (fun K hK => ?_) AllReadyH.nil
            go_simp
            refine hK.out _ _ ?_ (fun hHeld => ?_)
            · (try dsimp only); (first | assumption | exact ⟨c2x, f3, ct⟩ | exact ⟨HZ.1.1, HZ.1.2, HCZ.out.1⟩ | exact ⟨(HZ.2.2 _).1, (HZ.2.2 _).2, HCZ.out.2 _⟩ | (refine sees3f ?_ c2x c3 f3 ct; (repeat (first | exact bnil _ | refine Below.drew ?_ | refine bnew ?_ _))))
            clear hK K
            try simp only [Act.put, List.setIfInBounds_toArray, List.set_cons_zero, List.set_cons_succ]
            refine wpAnyH_take (i := 16) (oi := ⟨some 107, _, _, _, _, _⟩) (v := ?_) rfl (by kernel_rfl) (by kernel_rfl) (by kernel_rfl) (fun _ _ _ h => h) (Or.inl ⟨by rfl, ?_⟩) (by assumption) ?_
            rotate_left
            · intro w hSw; (try dsimp only at hSw); go_simp <;> with_reducible rfl
            try simp only [Act.put, List.setIfInBounds_toArray, List.set_cons_zero, List.set_cons_succ]
            refine wpAnyH_ready (rs := [9, 17]) (by kernel_rfl) (by simp) ?_
            refine AllReadyH.cons (o := ⟨some 100, _, _, _, _, _⟩) rfl (fun K hK => ?_) ?_
            go_simp
            refine hK.out _ _ ?_ (fun hHeld => ?_)
            · (try dsimp only); (first | assumption | exact ⟨c2x, f3, ct⟩ | exact ⟨HZ.1.1, HZ.1.2, HCZ.out.1⟩ | exact ⟨(HZ.2.2 _).1, (HZ.2.2 _).2, HCZ.out.2 _⟩ | (refine sees3f ?_ c2x c3 f3 ct; (repeat (first | exact bnil _ | refine Below.drew ?_ | refine bnew ?_ _))))
            clear hK K
            try simp only [Act.put, List.setIfInBounds_toArray, List.set_cons_zero, List.set_cons_succ]
            refine wpAnyH_ready (rs := [17]) (by kernel_rfl) (by simp) ?_
            refine AllReadyH.cons (o := ⟨some 108, _, _, _, _, _⟩) rfl (fun K hK => ?_) AllReadyH.nil
            go_simp
            refine hK.out _ _ ?_ (fun hHeld => ?_)
            · (try dsimp only); (first | assumption | exact ⟨c2x, f3, ct⟩ | exact ⟨HZ.1.1, HZ.1.2, HCZ.out.1⟩ | exact ⟨(HZ.2.2 _).1, (HZ.2.2 _).2, HCZ.out.2 _⟩ | (refine sees3f ?_ c2x c3 f3 ct; (repeat (first | exact bnil _ | refine Below.drew ?_ | refine bnew ?_ _))))
            clear hK K
            try simp only [Act.put, List.setIfInBounds_toArray, List.set_cons_zero, List.set_cons_succ]
            refine wpAnyH_ready (rs := [18]) (by kernel_rfl) (by simp) ?_
            refine AllReadyH.cons (o := ⟨some 109, _, _, _, _, _⟩) rfl (fun K hK => ?_) AllReadyH.nil
            (refine step_appC elmCN gS_one rfl (.tmp 100) (.tmp 108) rfl (.slice Aj L cj) (((nth n cs i 0 2) t).zip (av t)) rfl (HR.out.row _ (bnew (bnew (bnil _) _) _).drew) [((⟨0, [(part : Int), (cnt : Int) + 1]⟩ : VCall), (⟨some ⟨wS.heap.size, 0, none⟩, 2, 2⟩ : SV))] y HYE rfl (Sl.drew (Sl.fresh' _ #[_, _] 35 2 1 _ (by simp) rfl)) rfl (by rw [HYL.out]; simp only [maxLen]; omega) (by rw [HYL.out]; omega) (Nat.le_trans HR.out.size (bnew (bnew (bnil _) _) _).drew.size) ?_; intro E6 c6 w6 hc6 hc7 HN6 HG6 HO6; have HZ := HR.out.grow _ w6 (bnew (bnew (bnil _) _) _).drew HG6.out; have HIZ := hid (HX.out.ints (j := t) (by omega) (bnew (bnew (bnil _) _) _).drew (by rw [HAJ.out]; exact HG6.out) HCN.out); have HCZ := hid (show w6.cell? ⟨Cn, part, none⟩ = some (.int .i64 ((cnt : Int) + 1)) ∧ ∀ v', (w6.setCell ⟨T, t, none⟩ v').cell? ⟨Cn, part, none⟩ = some (.int .i64 ((cnt : Int) + 1)) from ⟨HCC.out _ HIZ.out.1, fun v' => HCC.out _ (HIZ.out.2 v')⟩))
            refine hK.out _ _ ?_ (fun hHeld => ?_)
            · (try dsimp only); (first | assumption | exact ⟨c2x, f3, ct⟩ | exact ⟨HZ.1.1, HZ.1.2, HCZ.out.1⟩ | exact ⟨(HZ.2.2 _).1, (HZ.2.2 _).2, HCZ.out.2 _⟩ | (refine sees3f ?_ c2x c3 f3 ct; (repeat (first | exact bnil _ | refine Below.drew ?_ | refine bnew ?_ _))))
            clear hK K
            try simp only [Act.put, List.setIfInBounds_toArray, List.set_cons_zero, List.set_cons_succ]
            refine wpAnyH_take (i := 19) (oi := ⟨some 110, _, _, _, _, _⟩) (v := ?_) rfl (by kernel_rfl) (by kernel_rfl) (by kernel_rfl) (fun _ _ _ h => h) (Or.inl ⟨by rfl, ?_⟩) (by assumption) ?_
            rotate_left
            · intro w hSw; (try dsimp only at hSw); go_simp <;> with_reducible rfl
            try simp only [Act.put, List.setIfInBounds_toArray, List.set_cons_zero, List.set_cons_succ]
            refine wpAnyH_ready (rs := [20]) (by kernel_rfl) (by simp) ?_
            refine AllReadyH.cons (o := ⟨none, _, _, _, _, _⟩) rfl (fun K hK => ?_) AllReadyH.nil
            go_simp
            refine hK.out _ _ ?_ (fun hHeld => ?_)
            · (try dsimp only); (first | assumption | exact ⟨c2x, f3, ct⟩ | exact ⟨HZ.1.1, HZ.1.2, HCZ.out.1⟩ | exact ⟨(HZ.2.2 _).1, (HZ.2.2 _).2, HCZ.out.2 _⟩ | (refine sees3f ?_ c2x c3 f3 ct; (repeat (first | exact bnil _ | refine Below.drew ?_ | refine bnew ?_ _))))
            clear hK K
            try dsimp only [Act.put]
            refine wpAnyH_done (by kernel_rfl) ?_ _
            rotate_left
            refine AllReadyH.cons (o := ⟨some 108, _, _, _, _, _⟩) rfl (fun K hK => ?_) AllReadyH.nil
            go_simp
            refine hK.out _ _ ?_ (fun hHeld => ?_)
            · (try dsimp only); (first | assumption | exact ⟨c2x, f3, ct⟩ | exact ⟨HZ.1.1, HZ.1.2, HCZ.out.1⟩ | exact ⟨(HZ.2.2 _).1, (HZ.2.2 _).2, HCZ.out.2 _⟩ | (refine sees3f ?_ c2x c3 f3 ct; (repeat (first | exact bnil _ | refine Below.drew ?_ | refine bnew ?_ _))))
            clear hK K
            try simp only [Act.put, List.setIfInBounds_toArray, List.set_cons_zero, List.set_cons_succ]
            refine wpAnyH_ready (rs := [9]) (by kernel_rfl) (by simp) ?_
            refine AllReadyH.cons (o := ⟨some 100, _, _, _, _, _⟩) rfl (fun K hK => ?_) AllReadyH.nil
            go_simp
            refine hK.out _ _ ?_ (fun hHeld => ?_)
            · (try dsimp only); (first | assumption | exact ⟨c2x, f3, ct⟩ | exact ⟨HZ.1.1, HZ.1.2, HCZ.out.1⟩ | exact ⟨(HZ.2.2 _).1, (HZ.2.2 _).2, HCZ.out.2 _⟩ | (refine sees3f ?_ c2x c3 f3 ct; (repeat (first | exact bnil _ | refine Below.drew ?_ | refine bnew ?_ _))))
            clear hK K
            try simp only [Act.put, List.setIfInBounds_toArray, List.set_cons_zero, List.set_cons_succ]
            refine wpAnyH_ready (rs := [18]) (by kernel_rfl) (by simp) ?_
            refine AllReadyH.cons (o := ⟨some 109, _, _, _, _, _⟩) rfl (fun K hK => ?_) AllReadyH.nil
            (refine step_appC elmCN gS_one rfl (.tmp 100) (.tmp 108) rfl (.slice Aj L cj) (((nth n cs i 0 2) t).zip (av t)) rfl (HR.out.row _ (bnew (bnew (bnil _) _) _).drew) [((⟨0, [(part : Int), (cnt : Int) + 1]⟩ : VCall), (⟨some ⟨wS.heap.size, 0, none⟩, 2, 2⟩ : SV))] y HYE rfl (Sl.drew (Sl.fresh' _ #[_, _] 35 2 1 _ (by simp) rfl)) rfl (by rw [HYL.out]; simp only [maxLen]; omega) (by rw [HYL.out]; omega) (Nat.le_trans HR.out.size (bnew (bnew (bnil _) _) _).drew.size) ?_; intro E6 c6 w6 hc6 hc7 HN6 HG6 HO6; have HZ := HR.out.grow _ w6 (bnew (bnew (bnil _) _) _).drew HG6.out; have HIZ := hid (HX.out.ints (j := t) (by omega) (bnew (bnew (bnil _) _) _).drew (by rw [HAJ.out]; exact HG6.out) HCN.out); have HCZ := hid (show w6.cell? ⟨Cn, part, none⟩ = some (.int .i64 ((cnt : Int) + 1)) ∧ ∀ v', (w6.setCell ⟨T, t, none⟩ v').cell? ⟨Cn, part, none⟩ = some (.int .i64 ((cnt : Int) + 1)) from ⟨HCC.out _ HIZ.out.1, fun v' => HCC.out _ (HIZ.out.2 v')⟩))
            refine hK.out _ _ ?_ (fun hHeld => ?_)
            · (try dsimp only); (first | assumption | exact ⟨c2x, f3, ct⟩ | exact ⟨HZ.1.1, HZ.1.2, HCZ.out.1⟩ | exact ⟨(HZ.2.2 _).1, (HZ.2.2 _).2, HCZ.out.2 _⟩ | (refine sees3f ?_ c2x c3 f3 ct; (repeat (first | exact bnil _ | refine Below.drew ?_ | refine bnew ?_ _))))
            clear hK K
            try simp only [Act.put, List.setIfInBounds_toArray, List.set_cons_zero, List.set_cons_succ]
            refine wpAnyH_take (i := 19) (oi := ⟨some 110, _, _, _, _, _⟩) (v := ?_) rfl (by kernel_rfl) (by kernel_rfl) (by kernel_rfl) (fun _ _ _ h => h) (Or.inl ⟨by rfl, ?_⟩) (by assumption) ?_
            rotate_left
            · intro w hSw; (try dsimp only at hSw); go_simp <;> with_reducible rfl
            try simp only [Act.put, List.setIfInBounds_toArray, List.set_cons_zero, List.set_cons_succ]
            refine wpAnyH_ready (rs := [20]) (by kernel_rfl) (by simp) ?_
            refine AllReadyH.cons (o := ⟨none, _, _, _, _, _⟩) rfl (fun K hK => ?_) AllReadyH.nil
            go_simp
            refine hK.out _ _ ?_ (fun hHeld => ?_)
            · (try dsimp only); (first | assumption | exact ⟨c2x, f3, ct⟩ | exact ⟨HZ.1.1, HZ.1.2, HCZ.out.1⟩ | exact ⟨(HZ.2.2 _).1, (HZ.2.2 _).2, HCZ.out.2 _⟩ | (refine sees3f ?_ c2x c3 f3 ct; (repeat (first | exact bnil _ | refine Below.drew ?_ | refine bnew ?_ _))))
            clear hK K
            try dsimp only [Act.put]
            refine wpAnyH_done (by kernel_rfl) ?_ _
            rotate_left
            all_goals
              have HF := hid (HX.out.app (j := t) (by omega) [⟨0, [(part : Int), (cnt : Int) + 1]⟩] [⟨some ⟨wS.heap.size, 0, none⟩, 2, 2⟩] (bnew (bnew (bnil _) _) _).drew rfl (HOF.out _) HYE.out (by rw [HAJ.out]; exact HG6.out) (by rw [HAJ.out]; exact HO6.out) HN6.out)
              have HNA2 := hid (na_app (t := t) HNA.out (a0 := ⟨some ⟨wS.heap.size, 0, none⟩, 2, 2⟩) (fun e => by have h : wS.heap.size = Cn := Option.some.inj (show some wS.heap.size = some Cn from e); have := HLTC.out; omega))
              go_wp2_with fail
              go_roundw
              case rel => exact ⟨i + 1, _, _, by omega, by go_num, hid (by have h1 := HF.out; rw [HNQ.out] at h1; exact h1), hid (HIZ.out.2 _), HNA2⟩
              case measure => simp [intOf]; omega
    · obtain rfl : i = 24 := by omega
      have i1 : ¬ ((24 : Nat) : Int) < 24 := by omega
      go_wp2_with fail
      go_loopw [17] (fun v wx => ∃ (k : Nat) (tv : Nat → Value) (av : Nat → List SV), k ≤ 10 ∧ v = .int .i64 k ∧ Hid (MBun w wx w.heap.size nil3 w.heap.size X Cb T 2 4 (.slice AW n cW) (List.replicate n (0 : Int)) (fun i => [.slice A1 L1 c1, .slice A2 L2 c2].getD i undef) (fun i => [nputCode, nscanCode n].getD i []) tv (nth n cs 24 k 2) av)) (fun v _ => 10 - (intOf v).toNat)
      case atStart => exact ⟨0, _, _, Nat.zero_le _, rfl, HX⟩
      case round =>
        clear HX HCN HNA
        clear tv av
        obtain ⟨k, tv, av, hk10, rfl, HX⟩ := hrel
        by_cases hkl : k < 10
        · have i2 : (k : Int) < 10 := by omega
          have HLN := hid (show (nth n cs 24 k 2 2).length ≤ 20 from Nat.le_trans (nth_len (by decide) hk10) (by decide))
          go_upto_region 23 with fail
          go_cut [] (fun wx => ∃ (tv2 : Nat → Value) (av2 : Nat → List SV), Hid (MBun w wx w.heap.size nil3 w.heap.size X Cb T 2 4 (.slice AW n cW) (List.replicate n (0 : Int)) (fun i => [.slice A1 L1 c1, .slice A2 L2 c2].getD i undef) (fun i => [nputCode, nscanCode n].getD i []) tv2 (nth n cs 24 k 3) av2))
          case first =>
            have HOF := hid (show ∀ (LIT : Obj) (k' : Nat) (c : VCall) (a : SV), ([⟨1, []⟩] : List VCall)[k']? = some c → ([(⟨none, 0, 0⟩ : SV)] : List SV)[k']? = some a → ((wr.alloc LIT).drew).ownsRow w.heap.size 3 1 a.v c.args.length (c.args.flatMap gI) from by
              intro LIT k' c a hc ha
              match k', hc, ha with
              | 0, hc, ha => injection hc with hc; injection ha with ha; subst hc ha; exact own0 _ _ _ 1
              | k + 1, hc, ha => cases hc)
            obtain ⟨Aj, cj, hAj, HR0⟩ := HX.out.row (j := 2) (by omega)
            obtain ⟨L, hL⟩ : ∃ L, ((nth n cs 24 k 2) 2).length = L := ⟨_, rfl⟩
            rw [hL] at hAj HR0
            have hL18 : L ≤ 20 := by rw [← hL]; exact HLN.out
            obtain ⟨y, hy⟩ : ∃ y, ((nth n cs 24 k 2) 2).zip (av 2) ++ [((⟨1, []⟩ : VCall), ((⟨none, 0, 0⟩ : SV) : SV))] = y := ⟨_, rfl⟩
            have HYE := hid hy
            have HYL := hid (show y.length = L + 1 by rw [← hy, List.length_append, HR0.len]; rfl)
            have HR := hid HR0
            have HAJ := hid hAj
            have c2x := HR.out.c2; have c3 := HR.out.c3; have f3 := HR.out.f3; have hcj := HR.out.hcj; have hcm := HR.out.hcm
            unfold maxLen at hcm
            clear hy HR0 hAj hL
            have ltT := World.block_lt_of_cell? wr _ c3
            have ltX := World.block_lt_of_cell? wr _ c2x
            have ltT1 : T < wr.heap.size + 1 := Nat.lt_succ_of_lt ltT
            have hq3 : ∀ o1 o2 : Obj, ((wr.alloc o1).alloc o2).cell? ⟨T, 2, none⟩ = some (.slice Aj L cj) := fun o1 o2 => cell_below (bnew (bnew (bnil wr) o1) o2) c3
            skip
            refine wp_region_held_drew (S := (fun w' => w'.cell? ⟨X, 2, none⟩ = some (.slice (some ⟨T, 0, none⟩) 4 4) ∧ w'.frozen? ⟨T, 2, none⟩ = false)) (by kernel_rfl) ?_ (fun hHeld => ?_)
            · (try dsimp only); (first | assumption | exact ⟨c2x, f3⟩ | exact HZ.1 | exact HZ.2.2 _ | (refine sees2f ?_ c2x c3 f3; (repeat (first | exact bnil _ | refine Below.drew ?_ | refine bnew ?_ _))))
            refine wpAnyH_take (i := 0) (oi := ⟨some 115, _, _, _, _, _⟩) (v := ?_) rfl (by kernel_rfl) (by kernel_rfl) (by kernel_rfl) (fun _ _ _ h => h) (Or.inl ⟨by rfl, ?_⟩) (by assumption) ?_
            rotate_left
            · intro w hSw; (try dsimp only at hSw); go_simp <;> with_reducible rfl
            try simp only [Act.put, List.setIfInBounds_toArray, List.set_cons_zero, List.set_cons_succ]
            refine wpAnyH_take (i := 1) (oi := ⟨some 116, _, _, _, _, _⟩) (v := ?_) rfl (by kernel_rfl) (by kernel_rfl) (by kernel_rfl) (fun _ _ _ h => h) (Or.inl ⟨by rfl, ?_⟩) (by assumption) ?_
            rotate_left
            · intro w hSw; (try dsimp only at hSw); go_simp <;> with_reducible rfl
            try simp only [Act.put, List.setIfInBounds_toArray, List.set_cons_zero, List.set_cons_succ]
            refine wpAnyH_take (i := 2) (oi := ⟨some 117, _, _, _, _, _⟩) (v := ?_) rfl (by kernel_rfl) (by kernel_rfl) (by kernel_rfl) (fun _ _ _ h => h) (Or.inl ⟨by rfl, ?_⟩) (by assumption) ?_
            rotate_left
            · intro w hSw; (try dsimp only at hSw); go_simp <;> with_reducible rfl
            try simp only [Act.put, List.setIfInBounds_toArray, List.set_cons_zero, List.set_cons_succ]
            refine wpAnyH_take (i := 3) (oi := ⟨some 118, _, _, _, _, _⟩) (v := ?_) rfl (by kernel_rfl) (by kernel_rfl) (by kernel_rfl) (fun _ _ _ h => h) (Or.inl ⟨by rfl, ?_⟩) (by assumption) ?_
            rotate_left
            · intro w hSw; (try dsimp only at hSw); go_simp <;> with_reducible rfl
            try simp only [Act.put, List.setIfInBounds_toArray, List.set_cons_zero, List.set_cons_succ]
            refine wpAnyH_take (i := 4) (oi := ⟨some 119, _, _, _, _, _⟩) (v := ?_) rfl (by kernel_rfl) (by kernel_rfl) (by kernel_rfl) (fun _ _ _ h => h) (Or.inl ⟨by rfl, ?_⟩) (by assumption) ?_
            rotate_left
            · intro w hSw; (try dsimp only at hSw); go_simp <;> with_reducible rfl
            try simp only [Act.put, List.setIfInBounds_toArray, List.set_cons_zero, List.set_cons_succ]
            refine wpAnyH_take (i := 6) (oi := ⟨some 121, _, _, _, _, _⟩) (v := ?_) rfl (by kernel_rfl) (by kernel_rfl) (by kernel_rfl) (fun _ _ _ h => h) (Or.inl ⟨by rfl, ?_⟩) (by assumption) ?_
            rotate_left
            · intro w hSw; (try dsimp only at hSw); go_simp <;> with_reducible rfl
            try simp only [Act.put, List.setIfInBounds_toArray, List.set_cons_zero, List.set_cons_succ]
            refine wpAnyH_ready (rs := [5, 7]) (by kernel_rfl) (by simp) ?_
            refine AllReadyH.cons (o := ⟨some 120, _, _, _, _, _⟩) rfl (fun K hK => ?_) ?_
            go_simp
            refine hK.out _ _ ?_ (fun hHeld => ?_)
            · (try dsimp only); (first | assumption | exact ⟨c2x, f3⟩ | exact HZ.1 | exact HZ.2.2 _ | (refine sees2f ?_ c2x c3 f3; (repeat (first | exact bnil _ | refine Below.drew ?_ | refine bnew ?_ _))))
            clear hK K
            try simp only [Act.put, List.setIfInBounds_toArray, List.set_cons_zero, List.set_cons_succ]
            refine wpAnyH_ready (rs := [7]) (by kernel_rfl) (by simp) ?_
            refine AllReadyH.cons (o := ⟨some 122, _, _, _, _, _⟩) rfl (fun K hK => ?_) AllReadyH.nil
            go_simp
            refine hK.out _ _ ?_ (fun hHeld => ?_)
            · (try dsimp only); (first | assumption | exact ⟨c2x, f3⟩ | exact HZ.1 | exact HZ.2.2 _ | (refine sees2f ?_ c2x c3 f3; (repeat (first | exact bnil _ | refine Below.drew ?_ | refine bnew ?_ _))))
            clear hK K
            try simp only [Act.put, List.setIfInBounds_toArray, List.set_cons_zero, List.set_cons_succ]
            refine wpAnyH_ready (rs := [8]) (by kernel_rfl) (by simp) ?_
            refine AllReadyH.cons (o := ⟨some 123, _, _, _, _, _⟩) rfl (fun K hK => ?_) AllReadyH.nil
            (refine step_appC elmCN gS_one rfl (.tmp 120) (.tmp 122) rfl (.slice Aj L cj) (((nth n cs 24 k 2) 2).zip (av 2)) rfl (HR.out.row _ (bnew (bnil _) _).drew) [((⟨1, []⟩ : VCall), ((⟨none, 0, 0⟩ : SV) : SV))] y HYE rfl (Sl.drew (Sl.fresh' _ #[_, _] 35 2 1 _ (by simp) rfl)) rfl (by rw [HYL.out]; simp only [maxLen]; omega) (by rw [HYL.out]; omega) (Nat.le_trans HR.out.size (bnew (bnil _) _).drew.size) ?_; intro E6 c6 w6 hc6 hc7 HN6 HG6 HO6; have HZ := HR.out.grow _ w6 (bnew (bnil _) _).drew HG6.out)
            refine hK.out _ _ ?_ (fun hHeld => ?_)
            · (try dsimp only); (first | assumption | exact ⟨c2x, f3⟩ | exact HZ.1 | exact HZ.2.2 _ | (refine sees2f ?_ c2x c3 f3; (repeat (first | exact bnil _ | refine Below.drew ?_ | refine bnew ?_ _))))
            clear hK K
            try simp only [Act.put, List.setIfInBounds_toArray, List.set_cons_zero, List.set_cons_succ]
            refine wpAnyH_take (i := 9) (oi := ⟨some 124, _, _, _, _, _⟩) (v := ?_) rfl (by kernel_rfl) (by kernel_rfl) (by kernel_rfl) (fun _ _ _ h => h) (Or.inl ⟨by rfl, ?_⟩) (by assumption) ?_
            rotate_left
            · intro w hSw; (try dsimp only at hSw); go_simp <;> with_reducible rfl
            try simp only [Act.put, List.setIfInBounds_toArray, List.set_cons_zero, List.set_cons_succ]
            refine wpAnyH_ready (rs := [10]) (by kernel_rfl) (by simp) ?_
            refine AllReadyH.cons (o := ⟨none, _, _, _, _, _⟩) rfl (fun K hK => ?_) AllReadyH.nil
            go_simp
            refine hK.out _ _ ?_ (fun hHeld => ?_)
            · (try dsimp only); (first | assumption | exact ⟨c2x, f3⟩ | exact HZ.1 | exact HZ.2.2 _ | (refine sees2f ?_ c2x c3 f3; (repeat (first | exact bnil _ | refine Below.drew ?_ | refine bnew ?_ _))))
            clear hK K
            try dsimp only [Act.put]
            refine wpAnyH_done (by kernel_rfl) ?_ _
            rotate_left
            refine AllReadyH.cons (o := ⟨some 122, _, _, _, _, _⟩) rfl (fun K hK => ?_) AllReadyH.nil
            go_simp
            refine hK.out _ _ ?_ (fun hHeld => ?_)
            · (try dsimp only); (first | assumption | exact ⟨c2x, f3⟩ | exact HZ.1 | exact HZ.2.2 _ | (refine sees2f ?_ c2x c3 f3; (repeat (first | exact bnil _ | refine Below.drew ?_ | refine bnew ?_ _))))
            clear hK K
            try simp only [Act.put, List.setIfInBounds_toArray, List.set_cons_zero, List.set_cons_succ]
            refine wpAnyH_ready (rs := [5]) (by kernel_rfl) (by simp) ?_
            refine AllReadyH.cons (o := ⟨some 120, _, _, _, _, _⟩) rfl (fun K hK => ?_) AllReadyH.nil
            go_simp
            refine hK.out _ _ ?_ (fun hHeld => ?_)
            · (try dsimp only); (first | assumption | exact ⟨c2x, f3⟩ | exact HZ.1 | exact HZ.2.2 _ | (refine sees2f ?_ c2x c3 f3; (repeat (first | exact bnil _ | refine Below.drew ?_ | refine bnew ?_ _))))
            clear hK K
            try simp only [Act.put, List.setIfInBounds_toArray, List.set_cons_zero, List.set_cons_succ]
            refine wpAnyH_ready (rs := [8]) (by kernel_rfl) (by simp) ?_
            refine AllReadyH.cons (o := ⟨some 123, _, _, _, _, _⟩) rfl (fun K hK => ?_) AllReadyH.nil
            (refine step_appC elmCN gS_one rfl (.tmp 120) (.tmp 122) rfl (.slice Aj L cj) (((nth n cs 24 k 2) 2).zip (av 2)) rfl (HR.out.row _ (bnew (bnil _) _).drew) [((⟨1, []⟩ : VCall), ((⟨none, 0, 0⟩ : SV) : SV))] y HYE rfl (Sl.drew (Sl.fresh' _ #[_, _] 35 2 1 _ (by simp) rfl)) rfl (by rw [HYL.out]; simp only [maxLen]; omega) (by rw [HYL.out]; omega) (Nat.le_trans HR.out.size (bnew (bnil _) _).drew.size) ?_; intro E6 c6 w6 hc6 hc7 HN6 HG6 HO6; have HZ := HR.out.grow _ w6 (bnew (bnil _) _).drew HG6.out)
            refine hK.out _ _ ?_ (fun hHeld => ?_)
            · (try dsimp only); (first | assumption | exact ⟨c2x, f3⟩ | exact HZ.1 | exact HZ.2.2 _ | (refine sees2f ?_ c2x c3 f3; (repeat (first | exact bnil _ | refine Below.drew ?_ | refine bnew ?_ _))))
            clear hK K
            try simp only [Act.put, List.setIfInBounds_toArray, List.set_cons_zero, List.set_cons_succ]
            refine wpAnyH_take (i := 9) (oi := ⟨some 124, _, _, _, _, _⟩) (v := ?_) rfl (by kernel_rfl) (by kernel_rfl) (by kernel_rfl) (fun _ _ _ h => h) (Or.inl ⟨by rfl, ?_⟩) (by assumption) ?_
            rotate_left
            · intro w hSw; (try dsimp only at hSw); go_simp <;> with_reducible rfl
            try simp only [Act.put, List.setIfInBounds_toArray, List.set_cons_zero, List.set_cons_succ]
            refine wpAnyH_ready (rs := [10]) (by kernel_rfl) (by simp) ?_
            refine AllReadyH.cons (o := ⟨none, _, _, _, _, _⟩) rfl (fun K hK => ?_) AllReadyH.nil
            go_simp
            refine hK.out _ _ ?_ (fun hHeld => ?_)
            · (try dsimp only); (first | assumption | exact ⟨c2x, f3⟩ | exact HZ.1 | exact HZ.2.2 _ | (refine sees2f ?_ c2x c3 f3; (repeat (first | exact bnil _ | refine Below.drew ?_ | refine bnew ?_ _))))
            clear hK K
            try dsimp only [Act.put]
            refine wpAnyH_done (by kernel_rfl) ?_ _
            rotate_left
            all_goals
              have HF := hid (HX.out.app (j := 2) (by omega) [⟨1, []⟩] [(⟨none, 0, 0⟩ : SV)] (bnew (bnil _) _).drew rfl (HOF.out _) HYE.out (by rw [HAJ.out]; exact HG6.out) (by rw [HAJ.out]; exact HO6.out) HN6.out)
              go_wp2_with fail
              go_meet
              exact ⟨_, _, hid (by have h1 := HF.out; rw [nth_get (by decide) (by decide)] at h1; exact h1)⟩
          case rest =>
            clear HX HLN
            obtain ⟨w23, hw23⟩ : ∃ w2, w2 = wc := ⟨_, rfl⟩
            rw [← hw23] at hcut ⊢
            clear hw23
            clear tv av
            obtain ⟨tv, av, HX⟩ := hcut
            have HLN := hid (show (nth n cs 24 k 3 3).length ≤ 20 from Nat.le_trans (nth_len (by decide) hk10) (by decide))
            have HOF := hid (show ∀ (LIT : Obj) (k' : Nat) (c : VCall) (a : SV), ([⟨1, []⟩] : List VCall)[k']? = some c → ([(⟨none, 0, 0⟩ : SV)] : List SV)[k']? = some a → ((w23.alloc LIT).drew).ownsRow w.heap.size 3 1 a.v c.args.length (c.args.flatMap gI) from by
              intro LIT k' c a hc ha
              match k', hc, ha with
              | 0, hc, ha => injection hc with hc; injection ha with ha; subst hc ha; exact own0 _ _ _ 1
              | k + 1, hc, ha => cases hc)
            obtain ⟨Aj, cj, hAj, HR0⟩ := HX.out.row (j := 3) (by omega)
            obtain ⟨L, hL⟩ : ∃ L, ((nth n cs 24 k 3) 3).length = L := ⟨_, rfl⟩
            rw [hL] at hAj HR0
            have hL18 : L ≤ 20 := by rw [← hL]; exact HLN.out
            obtain ⟨y, hy⟩ : ∃ y, ((nth n cs 24 k 3) 3).zip (av 3) ++ [((⟨1, []⟩ : VCall), ((⟨none, 0, 0⟩ : SV) : SV))] = y := ⟨_, rfl⟩
            have HYE := hid hy
            have HYL := hid (show y.length = L + 1 by rw [← hy, List.length_append, HR0.len]; rfl)
            have HR := hid HR0
            have HAJ := hid hAj
            have c2x := HR.out.c2; have c3 := HR.out.c3; have f3 := HR.out.f3; have hcj := HR.out.hcj; have hcm := HR.out.hcm
            unfold maxLen at hcm
            clear hy HR0 hAj hL
            have ltT := World.block_lt_of_cell? w23 _ c3
            have ltX := World.block_lt_of_cell? w23 _ c2x
            have ltT1 : T < w23.heap.size + 1 := Nat.lt_succ_of_lt ltT
            have hq3 : ∀ o1 o2 : Obj, ((w23.alloc o1).alloc o2).cell? ⟨T, 3, none⟩ = some (.slice Aj L cj) := fun o1 o2 => cell_below (bnew (bnew (bnil w23) o1) o2) c3
            go_upto_region 24 with fail
            refine wp_region_held_drew (S := (fun w' => w'.cell? ⟨X, 2, none⟩ = some (.slice (some ⟨T, 0, none⟩) 4 4) ∧ w'.frozen? ⟨T, 3, none⟩ = false)) (by kernel_rfl) ?_ (fun hHeld => ?_)
            · (try dsimp only); (first | assumption | exact ⟨c2x, f3⟩ | exact HZ.1 | exact HZ.2.2 _ | (refine sees2f ?_ c2x c3 f3; (repeat (first | exact bnil _ | refine Below.drew ?_ | refine bnew ?_ _))))
            refine wpAnyH_take (i := 0) (oi := ⟨some 125, _, _, _, _, _⟩) (v := ?_) rfl (by kernel_rfl) (by kernel_rfl) (by kernel_rfl) (fun _ _ _ h => h) (Or.inl ⟨by rfl, ?_⟩) (by assumption) ?_
            rotate_left
            · intro w hSw; (try dsimp only at hSw); go_simp <;> with_reducible rfl
            try simp only [Act.put, List.setIfInBounds_toArray, List.set_cons_zero, List.set_cons_succ]
            refine wpAnyH_take (i := 1) (oi := ⟨some 126, _, _, _, _, _⟩) (v := ?_) rfl (by kernel_rfl) (by kernel_rfl) (by kernel_rfl) (fun _ _ _ h => h) (Or.inl ⟨by rfl, ?_⟩) (by assumption) ?_
            rotate_left
            · intro w hSw; (try dsimp only at hSw); go_simp <;> with_reducible rfl
            try simp only [Act.put, List.setIfInBounds_toArray, List.set_cons_zero, List.set_cons_succ]
            refine wpAnyH_take (i := 2) (oi := ⟨some 127, _, _, _, _, _⟩) (v := ?_) rfl (by kernel_rfl) (by kernel_rfl) (by kernel_rfl) (fun _ _ _ h => h) (Or.inl ⟨by rfl, ?_⟩) (by assumption) ?_
            rotate_left
            · intro w hSw; (try dsimp only at hSw); go_simp <;> with_reducible rfl
            try simp only [Act.put, List.setIfInBounds_toArray, List.set_cons_zero, List.set_cons_succ]
            refine wpAnyH_take (i := 3) (oi := ⟨some 128, _, _, _, _, _⟩) (v := ?_) rfl (by kernel_rfl) (by kernel_rfl) (by kernel_rfl) (fun _ _ _ h => h) (Or.inl ⟨by rfl, ?_⟩) (by assumption) ?_
            rotate_left
            · intro w hSw; (try dsimp only at hSw); go_simp <;> with_reducible rfl
            try simp only [Act.put, List.setIfInBounds_toArray, List.set_cons_zero, List.set_cons_succ]
            refine wpAnyH_take (i := 4) (oi := ⟨some 129, _, _, _, _, _⟩) (v := ?_) rfl (by kernel_rfl) (by kernel_rfl) (by kernel_rfl) (fun _ _ _ h => h) (Or.inl ⟨by rfl, ?_⟩) (by assumption) ?_
            rotate_left
            · intro w hSw; (try dsimp only at hSw); go_simp <;> with_reducible rfl
            try simp only [Act.put, List.setIfInBounds_toArray, List.set_cons_zero, List.set_cons_succ]
            refine wpAnyH_take (i := 6) (oi := ⟨some 131, _, _, _, _, _⟩) (v := ?_) rfl (by kernel_rfl) (by kernel_rfl) (by kernel_rfl) (fun _ _ _ h => h) (Or.inl ⟨by rfl, ?_⟩) (by assumption) ?_
            rotate_left
            · intro w hSw; (try dsimp only at hSw); go_simp <;> with_reducible rfl
            try simp only [Act.put, List.setIfInBounds_toArray, List.set_cons_zero, List.set_cons_succ]
            refine wpAnyH_ready (rs := [5, 7]) (by kernel_rfl) (by simp) ?_
            refine AllReadyH.cons (o := ⟨some 130, _, _, _, _, _⟩) rfl (fun K hK => ?_) ?_
            go_simp
            refine hK.out _ _ ?_ (fun hHeld => ?_)
            · (try dsimp only); (first | assumption | exact ⟨c2x, f3⟩ | exact HZ.1 | exact HZ.2.2 _ | (refine sees2f ?_ c2x c3 f3; (repeat (first | exact bnil _ | refine Below.drew ?_ | refine bnew ?_ _))))
            clear hK K
            try simp only [Act.put, List.setIfInBounds_toArray, List.set_cons_zero, List.set_cons_succ]
            refine wpAnyH_ready (rs := [7]) (by kernel_rfl) (by simp) ?_
            refine AllReadyH.cons (o := ⟨some 132, _, _, _, _, _⟩) rfl (fun K hK => ?_) AllReadyH.nil
            go_simp
            refine hK.out _ _ ?_ (fun hHeld => ?_)
            · (try dsimp only); (first | assumption | exact ⟨c2x, f3⟩ | exact HZ.1 | exact HZ.2.2 _ | (refine sees2f ?_ c2x c3 f3; (repeat (first | exact bnil _ | refine Below.drew ?_ | refine bnew ?_ _))))
            clear hK K
            try simp only [Act.put, List.setIfInBounds_toArray, List.set_cons_zero, List.set_cons_succ]
            refine wpAnyH_ready (rs := [8]) (by kernel_rfl) (by simp) ?_
            refine AllReadyH.cons (o := ⟨some 133, _, _, _, _, _⟩) rfl (fun K hK => ?_) AllReadyH.nil
            (refine step_appC elmCN gS_one rfl (.tmp 130) (.tmp 132) rfl (.slice Aj L cj) (((nth n cs 24 k 3) 3).zip (av 3)) rfl (HR.out.row _ (bnew (bnil _) _).drew) [((⟨1, []⟩ : VCall), ((⟨none, 0, 0⟩ : SV) : SV))] y HYE rfl (Sl.drew (Sl.fresh' _ #[_, _] 35 2 1 _ (by simp) rfl)) rfl (by rw [HYL.out]; simp only [maxLen]; omega) (by rw [HYL.out]; omega) (Nat.le_trans HR.out.size (bnew (bnil _) _).drew.size) ?_; intro E6 c6 w6 hc6 hc7 HN6 HG6 HO6; have HZ := HR.out.grow _ w6 (bnew (bnil _) _).drew HG6.out)
            refine hK.out _ _ ?_ (fun hHeld => ?_)
            · (try dsimp only); (first | assumption | exact ⟨c2x, f3⟩ | exact HZ.1 | exact HZ.2.2 _ | (refine sees2f ?_ c2x c3 f3; (repeat (first | exact bnil _ | refine Below.drew ?_ | refine bnew ?_ _))))
            clear hK K
            try simp only [Act.put, List.setIfInBounds_toArray, List.set_cons_zero, List.set_cons_succ]
            refine wpAnyH_take (i := 9) (oi := ⟨some 134, _, _, _, _, _⟩) (v := ?_) rfl (by kernel_rfl) (by kernel_rfl) (by kernel_rfl) (fun _ _ _ h => h) (Or.inl ⟨by rfl, ?_⟩) (by assumption) ?_
            rotate_left
            · intro w hSw; (try dsimp only at hSw); go_simp <;> with_reducible rfl
            try simp only [Act.put, List.setIfInBounds_toArray, List.set_cons_zero, List.set_cons_succ]
            refine wpAnyH_ready (rs := [10]) (by kernel_rfl) (by simp) ?_
            refine AllReadyH.cons (o := ⟨none, _, _, _, _, _⟩) rfl (fun K hK => ?_) AllReadyH.nil
            go_simp
            refine hK.out _ _ ?_ (fun hHeld => ?_)
            · (try dsimp only); (first | assumption | exact ⟨c2x, f3⟩ | exact HZ.1 | exact HZ.2.2 _ | (refine sees2f ?_ c2x c3 f3; (repeat (first | exact bnil _ | refine Below.drew ?_ | refine bnew ?_ _))))
            clear hK K
            try dsimp only [Act.put]
            refine wpAnyH_done (by kernel_rfl) ?_ _
            rotate_left
            refine AllReadyH.cons (o := ⟨some 132, _, _, _, _, _⟩) rfl (fun K hK => ?_) AllReadyH.nil
            go_simp
            refine hK.out _ _ ?_ (fun hHeld => ?_)
            · (try dsimp only); (first | assumption | exact ⟨c2x, f3⟩ | exact HZ.1 | exact HZ.2.2 _ | (refine sees2f ?_ c2x c3 f3; (repeat (first | exact bnil _ | refine Below.drew ?_ | refine bnew ?_ _))))
            clear hK K
            try simp only [Act.put, List.setIfInBounds_toArray, List.set_cons_zero, List.set_cons_succ]
            refine wpAnyH_ready (rs := [5]) (by kernel_rfl) (by simp) ?_
            refine AllReadyH.cons (o := ⟨some 130, _, _, _, _, _⟩) rfl (fun K hK => ?_) AllReadyH.nil
            go_simp
            refine hK.out _ _ ?_ (fun hHeld => ?_)
            · (try dsimp only); (first | assumption | exact ⟨c2x, f3⟩ | exact HZ.1 | exact HZ.2.2 _ | (refine sees2f ?_ c2x c3 f3; (repeat (first | exact bnil _ | refine Below.drew ?_ | refine bnew ?_ _))))
            clear hK K
            try simp only [Act.put, List.setIfInBounds_toArray, List.set_cons_zero, List.set_cons_succ]
            refine wpAnyH_ready (rs := [8]) (by kernel_rfl) (by simp) ?_
            refine AllReadyH.cons (o := ⟨some 133, _, _, _, _, _⟩) rfl (fun K hK => ?_) AllReadyH.nil
            (refine step_appC elmCN gS_one rfl (.tmp 130) (.tmp 132) rfl (.slice Aj L cj) (((nth n cs 24 k 3) 3).zip (av 3)) rfl (HR.out.row _ (bnew (bnil _) _).drew) [((⟨1, []⟩ : VCall), ((⟨none, 0, 0⟩ : SV) : SV))] y HYE rfl (Sl.drew (Sl.fresh' _ #[_, _] 35 2 1 _ (by simp) rfl)) rfl (by rw [HYL.out]; simp only [maxLen]; omega) (by rw [HYL.out]; omega) (Nat.le_trans HR.out.size (bnew (bnil _) _).drew.size) ?_; intro E6 c6 w6 hc6 hc7 HN6 HG6 HO6; have HZ := HR.out.grow _ w6 (bnew (bnil _) _).drew HG6.out)
            refine hK.out _ _ ?_ (fun hHeld => ?_)
            · (try dsimp only); (first | assumption | exact ⟨c2x, f3⟩ | exact HZ.1 | exact HZ.2.2 _ | (refine sees2f ?_ c2x c3 f3; (repeat (first | exact bnil _ | refine Below.drew ?_ | refine bnew ?_ _))))
            clear hK K
            try simp only [Act.put, List.setIfInBounds_toArray, List.set_cons_zero, List.set_cons_succ]
            refine wpAnyH_take (i := 9) (oi := ⟨some 134, _, _, _, _, _⟩) (v := ?_) rfl (by kernel_rfl) (by kernel_rfl) (by kernel_rfl) (fun _ _ _ h => h) (Or.inl ⟨by rfl, ?_⟩) (by assumption) ?_
            rotate_left
            · intro w hSw; (try dsimp only at hSw); go_simp <;> with_reducible rfl
            try simp only [Act.put, List.setIfInBounds_toArray, List.set_cons_zero, List.set_cons_succ]
            refine wpAnyH_ready (rs := [10]) (by kernel_rfl) (by simp) ?_
            refine AllReadyH.cons (o := ⟨none, _, _, _, _, _⟩) rfl (fun K hK => ?_) AllReadyH.nil
            go_simp
            refine hK.out _ _ ?_ (fun hHeld => ?_)
            · (try dsimp only); (first | assumption | exact ⟨c2x, f3⟩ | exact HZ.1 | exact HZ.2.2 _ | (refine sees2f ?_ c2x c3 f3; (repeat (first | exact bnil _ | refine Below.drew ?_ | refine bnew ?_ _))))
            clear hK K
            try dsimp only [Act.put]
            refine wpAnyH_done (by kernel_rfl) ?_ _
            rotate_left
            all_goals
              have HF := hid (HX.out.app (j := 3) (by omega) [⟨1, []⟩] [(⟨none, 0, 0⟩ : SV)] (bnew (bnil _) _).drew rfl (HOF.out _) HYE.out (by rw [HAJ.out]; exact HG6.out) (by rw [HAJ.out]; exact HO6.out) HN6.out)
              go_wp2_with fail
              go_roundw
              case rel => exact ⟨k + 1, _, _, by omega, by go_num, hid (by have h1 := HF.out; rw [nth_get (by decide) (by decide), nth_next] at h1; exact h1)⟩
              case measure => simp [intOf]; omega
        · obtain rfl : k = 10 := by omega
          have i2 : ¬ ((10 : Nat) : Int) < 10 := by omega
          have HMA := hid (nmach_at HX.out.mn h1 h6)
          have y0 : wr.cell? ⟨X, 0, none⟩ = some (.slice AW n cW) := HX.out.hx.cell 0
          have y1 : wr.cell? ⟨X, 1, none⟩ = some (.slice (some ⟨Cb, 0, none⟩) 2 2) := HX.out.hx.cell 1
          have y2 : wr.cell? ⟨X, 2, none⟩ = some (.slice (some ⟨T, 0, none⟩) 4 4) := HX.out.hx.cell 2
          have z0 := HX.out.hr.frozen 0
          have z1 := HX.out.hr.frozen 1
          have z2 := HX.out.hr.frozen 2
          have z3 : wr.cell? ⟨w.heap.size, 0, none⟩ = some (.slice none 0 0) := HX.out.hr.cell 0
          have z4 : wr.cell? ⟨w.heap.size, 1, none⟩ = some (.slice none 0 0) := HX.out.hr.cell 1
          have z5 : wr.cell? ⟨w.heap.size, 2, none⟩ = some (.slice none 0 0) := HX.out.hr.cell 2
          have HTR := hid (HT.out.below HX.out.below)
          go_upto_region 25 with fail
          refine wp_region_held_drew (S := (fun w' => w'.cell? ⟨X, 0, none⟩ = some (.slice AW n cW) ∧ w'.cell? ⟨X, 1, none⟩ = some (.slice (some ⟨Cb, 0, none⟩) 2 2) ∧ w'.cell? ⟨X, 2, none⟩ = some (.slice (some ⟨T, 0, none⟩) 4 4) ∧ w'.frozen? ⟨w.heap.size, 0, none⟩ = false ∧ w'.frozen? ⟨w.heap.size, 1, none⟩ = false ∧ w'.frozen? ⟨w.heap.size, 2, none⟩ = false)) (by kernel_rfl) ?_ (fun hHeld => ?_)
          · (try dsimp only); (first | assumption | exact ⟨y0, y1, y2, z0, z1, z2⟩ | exact ⟨y0', y1', y2', z0', z1', z2'⟩ | exact keep16s hXR y0' y1' y2' z0' z1' z2' _ _ _)
          refine wpAnyH_take (i := 0) (oi := ⟨some 135, _, _, _, _, _⟩) (v := ?_) rfl (by kernel_rfl) (by kernel_rfl) (by kernel_rfl) (fun _ _ _ h => h) (Or.inl ⟨by rfl, ?_⟩) (by assumption) ?_
          rotate_left
          · intro w hSw; (try dsimp only at hSw); go_simp <;> with_reducible rfl
          try simp only [Act.put, List.setIfInBounds_toArray, List.set_cons_zero, List.set_cons_succ]
          refine wpAnyH_take (i := 1) (oi := ⟨some 136, _, _, _, _, _⟩) (v := ?_) rfl (by kernel_rfl) (by kernel_rfl) (by kernel_rfl) (fun _ _ _ h => h) (Or.inl ⟨by rfl, ?_⟩) (by assumption) ?_
          rotate_left
          · intro w hSw; (try dsimp only at hSw); go_simp <;> with_reducible rfl
          try simp only [Act.put, List.setIfInBounds_toArray, List.set_cons_zero, List.set_cons_succ]
          refine wpAnyH_ready (rs := [2]) (by kernel_rfl) (by simp) ?_
          refine AllReadyH.cons (o := ⟨some 137, _, _, _, _, _⟩) rfl (fun K hK => ?_) AllReadyH.nil
          go_simp
          refine (run_may AW (some ⟨Cb, 0, none⟩) (some ⟨T, 0, none⟩) n cW 2 2 4 4 _ _ (by omega) (by decide) (by decide) (HTR.out.below (bnil _).drew) (HMA.out.below (bnil _).drew)).mono ?_; rintro e w4 ⟨rfl, b4⟩; have b4 := bgo (bnil wr).drew b4; obtain ⟨y0', y1', y2', z0', z1', z2', z3', z4', z5'⟩ := keep16 b4 y0 y1 y2 z0 z1 z2 z3 z4 z5; clear y0 y1 y2 z0 z1 z2 z3 z4 z5
          go_wp2_with fail
          refine hK.out _ _ ?_ (fun hHeld => ?_)
          · (try dsimp only); (first | assumption | exact ⟨y0, y1, y2, z0, z1, z2⟩ | exact ⟨y0', y1', y2', z0', z1', z2'⟩ | exact keep16s hXR y0' y1' y2' z0' z1' z2' _ _ _)
          clear hK K
          try simp only [Act.put, List.setIfInBounds_toArray, List.set_cons_zero, List.set_cons_succ]
          refine wpAnyH_ready (rs := [3]) (by kernel_rfl) (by simp) ?_
          refine AllReadyH.cons (o := ⟨none, _, _, _, _, _⟩) rfl (fun K hK => ?_) AllReadyH.nil
          go_simp
          refine hK.out _ _ ?_ (fun hHeld => ?_)
          · (try dsimp only); (first | assumption | exact ⟨y0, y1, y2, z0, z1, z2⟩ | exact ⟨y0', y1', y2', z0', z1', z2'⟩ | exact keep16s hXR y0' y1' y2' z0' z1' z2' _ _ _)
          clear hK K
          try dsimp only [Act.put]
          refine wpAnyH_take (i := 4) (oi := ⟨some 5, _, _, _, _, _⟩) (v := ?_) rfl (by kernel_rfl) (by kernel_rfl) (by kernel_rfl) (fun _ _ _ h => h) (Or.inl ⟨by rfl, ?_⟩) (by assumption) ?_
          rotate_left
          · intro w hSw; (try dsimp only at hSw); go_simp <;> with_reducible rfl
          try simp only [Act.put, List.setIfInBounds_toArray, List.set_cons_zero, List.set_cons_succ]
          refine wpAnyH_done (by kernel_rfl) ?_ _
          rotate_left
          go_wp2
          have HXZ := hid (HX.out.step b4)
          obtain ⟨q0, q1, q2⟩ := set3N HXZ.out.hr (.slice AW n cW) (.slice (some ⟨Cb, 0, none⟩) 2 2) (.slice (some ⟨T, 0, none⟩) 4 4)
          refine bodyPost_ret (v := .tuple #[.agg #[(.slice AW n cW), .slice (some ⟨Cb, 0, none⟩) 2 2, .slice (some ⟨T, 0, none⟩) 4 4], .bool true]) (by simp [results, Tryd.results19, go_sem, q0, q1, q2]) rfl ?_
          exact ⟨AW, cW, Cb, T, _, tv, av, rfl, by have h := own_res HXZ.out.own HXZ.out.hr (by decide) (.slice AW n cW) (.slice (some ⟨Cb, 0, none⟩) 2 2) (.slice (some ⟨T, 0, none⟩) 4 4); rw [HWL.out] at h; exact h, HXZ.out.mn.res HXZ.out.hr _ _ _, ((HXZ.out.below.setCell (p := ⟨w.heap.size, 0, none⟩) (Nat.le_refl _) _).setCell (p := ⟨w.heap.size, 1, none⟩) (Nat.le_refl _) _).setCell (p := ⟨w.heap.size, 2, none⟩) (Nat.le_refl _) _⟩
end Go.Proofs.YtabmkjokeeakdaaDoor
