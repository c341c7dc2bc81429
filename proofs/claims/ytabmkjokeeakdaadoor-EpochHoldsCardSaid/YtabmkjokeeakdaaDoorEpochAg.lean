/-
  EpochAgain: its walk. Written by gen_epag.py.
-/
import Derived.Test.YtabmkjokeeakdaaDoorEpochM0
import Derived.Test.YtabmkjokeeakdaaDoorEpAg0
import Derived.Test.YtabmkjokeeakdaaDoorRan
import Derived.Test.YtabmkjokeeakdaaDoorDsAt
import Derived.Deep.RegionHeld
namespace Go.Proofs.YtabmkjokeeakdaaDoor
open Go.RowKit
set_option linter.unusedVariables false

/-- a machine while calls are appended -/
structure ABun (W0 w : World) (X Cb T nc nt : Nat) (Wv : Value) (ws : List Int) (cv : Nat → Value) (ks : Nat → List Op5) (tv : Nat → Value) (th : Nat → List VCall) (av : Nat → List SV) : Prop where
  below : Below W0.heap.size W0 w
  hx : Blk w X 29 #[Wv, .slice (some ⟨Cb, 0, none⟩) nc nc, .slice (some ⟨T, 0, none⟩) nt nt]
  own : w.ownsRow W0.heap.size 3 1 Wv ws.length (ws.flatMap gI)
  mn : MN W0.heap.size w nc nt Cb T cv ks tv th av
section
variable {W0 w w' : World} {X Cb T nc nt : Nat} {Wv : Value} {ws : List Int} {cv : Nat → Value} {ks : Nat → List Op5} {tv : Nat → Value} {th : Nat → List VCall} {av : Nat → List SV}
theorem ABun.step (h : ABun W0 w X Cb T nc nt Wv ws cv ks tv th av) (hb : Below w.heap.size w w') : ABun W0 w' X Cb T nc nt Wv ws cv ks tv th av :=
  ⟨bgo h.below hb, h.hx.below' hb, own_below h.own hb, h.mn.below hb⟩
theorem ABun.row (h : ABun W0 w X Cb T nc nt Wv ws cv ks tv th av) {j : Nat} (hj : j < nt) : ∃ (Aj : Option Addr) (cj : Nat), tv j = .slice Aj (th j).length cj ∧ ARow W0 w X T j nt (th j).length Aj cj ((th j).zip (av j)) := by
  have hrow := h.mn.rows j hj
  obtain ⟨Aj, cj, hAj, hcj1, hcj2⟩ := own_form hrow.2.1
  have hlen : ((th j).zip (av j)).length = (th j).length := by rw [List.length_zip, hrow.1, Nat.min_self]
  refine ⟨Aj, cj, hAj, h.below.size, h.hx.cell 2, ?_, h.mn.tb.frozen j, hlen, hcj1, hcj2, fun w' hb => ?_, fun wA w6 hb hG => ?_⟩
  · rw [h.mn.tb.cell j, arrN_at tv hj, hAj]
  · have h1 := own_below hrow.2.1 hb
    rw [hAj] at h1
    rw [hlen]
    exact h1
  · rw [← hAj] at hG
    obtain ⟨g1, g2⟩ := h.mn.grown hj hb hG
    have gX := g2 (by decide) h.hx
    exact ⟨⟨gX.cell 2, g1.frozen j⟩, by rw [g1.cell j, arrN_at tv hj, hAj], fun v => ⟨(gX.far (p := ⟨T, j, none⟩) (gX.ne_ g1 (by decide)) v).cell 2, (g1.set_ j v).frozen j⟩⟩
/-- behind an append -/
theorem ABun.app (h : ABun W0 w X Cb T nc nt Wv ws cv ks tv th av) {j : Nat} (hj : j < nt) {wA w6 : World} {v' : Value} (cs : List VCall) (as_ : List SV) {y : List (VCall × SV)}
    (hb : Below w.heap.size w wA) (hl : as_.length = cs.length) (ha : ∀ (k : Nat) (c : VCall) (a : SV), cs[k]? = some c → as_[k]? = some a → wA.ownsRow W0.heap.size 3 1 a.v c.args.length (c.args.flatMap gI)) (hy : (th j).zip (av j) ++ cs.zip as_ = y)
    (hG : wA.grownBy w6 (tv j).ownBlock) (hv : v'.ownBlock = (tv j).ownBlock ∨ v'.ownBlock = some wA.heap.size) (hr : w6.ownsRow W0.heap.size 35 2 v' y.length (y.flatMap gS)) :
    ABun W0 (w6.setCell ⟨T, j, none⟩ v') X Cb T nc nt Wv ws cv ks (upd tv j v') (upd th j (th j ++ cs)) (upd av j (av j ++ as_)) := by
  obtain ⟨g1, g2⟩ := h.mn.grown hj hb hG
  have far : ∀ {g : Nat} {cs : Array Value}, Blk w g 29 cs → Blk (w6.setCell ⟨T, j, none⟩ v') g 29 cs := fun hx => (g2 (by decide) hx).far (p := ⟨T, j, none⟩) ((g2 (by decide) hx).ne_ g1 (by decide)) v'
  exact ⟨(h.mn.chg hj hb hG h.below rfl v').2, far h.hx, h.mn.other hj hb hG h.own (by decide) (by decide) v', h.mn.snoc hj cs as_ hb hl ha hy hG hv hr⟩
end
theorem eath_app (k i : Nat) : upd (eath k i) 0 (eath k i 0 ++ [⟨2, [(k : Int)]⟩, ⟨3, []⟩, ⟨3, []⟩]) = eath k (i + 1) := by
  funext t
  unfold upd eath
  by_cases h : t = 0
  · rw [if_pos h, if_pos rfl, if_pos h]; rfl
  · rw [if_neg h, if_neg h, if_neg h]
theorem eath_zero (k : Nat) : eath k 0 = fun _ => [] := by
  funext t; unfold eath; split <;> rfl
theorem eath_mem {k j : Nat} {x : VCall} (hx : x ∈ eath k 6 j) : x.code < 4 ∧ x.args.length ≤ 8 := by
  unfold eath at hx
  split at hx
  · simp only [eacalls, List.nil_append, List.cons_append, List.mem_cons, List.not_mem_nil, or_false] at hx
    repeat' (rcases hx with rfl | hx)
    all_goals exact ⟨Nat.le_of_ble_eq_true rfl, Nat.le_of_ble_eq_true rfl⟩
  · cases hx
theorem eag_threads (k : Nat) : (eath k 6 0).length ≤ 1000 := by unfold eath; rw [if_pos rfl, eacalls_len]; decide
theorem eagM_at {B : Nat} {w : World} {Cb T N k : Nat} {cv tv : Nat → Value} {av : Nat → List SV} (h : MN B w 4 4 Cb T cv (fun i => [epinCode, eunpinCode, eretireCode, efreeCode N].getD i []) tv (eath k 6) av) (h8 : N ≤ 8) (hk : k < 8) : MachAt w (some ⟨Cb, 0, none⟩) 4 (some ⟨T, 0, none⟩) 4 (eagM N k) :=
  h.at_ rfl rfl (fun i hi => ecode_sh N i hi) (fun j hj => ⟨by unfold eath; split <;> simp [eacalls_len], fun c hc => eath_mem hc⟩)
theorem mk_zeros (w : World) (n : Nat) (hn : n ≤ 6000) : ∃ cs : Array Value, (Instr.makeSlice 25 (.int .i64 (n : Int)) (.int .i64 (n : Int))).run Tryd.prog w = .ok (.slice (some ⟨w.heap.size, 0, none⟩) n n) (w.alloc (.cells cs 3)) ∧
    Sl (w.alloc (.cells cs 3)) 1 (some ⟨w.heap.size, 0, none⟩) n (ints ((List.replicate n 0).map fun x : Nat => (x : Int))) := by
  have h := run_make_row' (P := Tryd.prog) 25 3 (.int .i64 0) 8 Tryd.underlying25 (by kernel_rfl) rfl .i64 .i64 n (by omega) (by omega) w
  refine ⟨_, h, ?_⟩
  have e : (Go.madeCells #[.int .i64 0] n).toList = ints ((List.replicate n 0).map fun x : Nat => (x : Int)) := by
    rw [Go.toList_madeCells_one, List.map_replicate]
    unfold ints
    clear h
    induction n with
    | zero => rfl
    | succ n ih => rw [List.replicate_succ, List.replicate_succ, List.flatMap_cons, ← ih (by omega)]; rfl
  rw [← e]
  exact Sl.fresh w _ 3 1 n (by rw [← Array.length_toList, Go.toList_madeCells_one]; simp)
end Go.Proofs.YtabmkjokeeakdaaDoor
