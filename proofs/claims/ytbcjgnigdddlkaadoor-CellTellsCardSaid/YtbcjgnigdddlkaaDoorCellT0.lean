/-
  CellTells: the run, whatever numbers are put; and a call whose arguments are replaced. Written by gen_cellt.py.
-/
import Derived.Test.YtbcjgnigdddlkaaDoorCellMach
import Derived.Test.YtbcjgnigdddlkaaDoorDoing2
import Derived.Test.YtbcjgnigdddlkaaDoorPlayInd
namespace Go.Proofs.YtbcjgnigdddlkaaDoor
open Go.RowKit
set_option linter.unusedVariables false

/-- the machine, its second Put with other numbers -/
def cmachT (n : Nat) (vs : List Int) : Mach := ⟨List.replicate (n + 1) 0, [cputCode n, cgetCode n], [[⟨0, cargs n 0⟩, ⟨0, vs⟩], [⟨1, []⟩], [⟨1, []⟩], [⟨1, []⟩]]⟩
/-- what stands in the schedule behind j threads and i steps -/
def cslm (m j i : Nat) : List Nat := (([1, 0, 2] : List Nat).take j).flatMap (List.replicate m) ++ List.replicate i (([1, 0, 2] : List Nat).getD j 0)
theorem cslm_len {m j i : Nat} (h : j ≤ 3) : (cslm m j i).length = m * j + i := by
  unfold cslm
  rcases (show j = 0 ∨ j = 1 ∨ j = 2 ∨ j = 3 by omega) with rfl | rfl | rfl | rfl <;> simp <;> omega
theorem cslm_round {m j : Nat} (h : j < 3) : cslm m j m = cslm m (j + 1) 0 := by
  rcases (show j = 0 ∨ j = 1 ∨ j = 2 by omega) with rfl | rfl | rfl <;> simp [cslm]
def csl (j i : Nat) : List Nat := cslm 160 j i
theorem csl_len {j i : Nat} (h : j ≤ 3) : (csl j i).length = 160 * j + i := cslm_len h
theorem csl_next (j i : Nat) : csl j i ++ [([1, 0, 2] : List Nat).getD j 0] = csl j (i + 1) := by
  unfold csl cslm; rw [List.append_assoc, List.replicate_succ']
theorem csl_round {j : Nat} (h : j < 3) : csl j 160 = csl (j + 1) 0 := cslm_round h
theorem csl_lt : ∀ x ∈ csl 3 0, x < 4 := by
  intro x hx
  unfold csl cslm at hx
  simp only [List.replicate_zero, List.append_nil] at hx
  obtain ⟨y, hy, hxy⟩ := List.mem_flatMap.1 hx
  rw [List.eq_of_mem_replicate hxy]
  simp at hy
  omega
def cevs (n : Nat) (vs : List Int) : List Ev := [⟨0, 1, 0, false, 0, []⟩, ⟨2 * n + 6, 1, 0, true, 0, List.replicate n 0⟩, ⟨160, 0, 0, false, 0, []⟩, ⟨165 + n, 0, 0, true, 0, []⟩, ⟨166 + n, 0, 1, false, 0, []⟩, ⟨171 + 2 * n, 0, 1, true, 0, []⟩, ⟨320, 2, 0, false, 0, []⟩, ⟨326 + 2 * n, 2, 0, true, 0, vs⟩]
theorem cdoings (n : Nat) (vs : List Int) : doings (cevs n vs) = [⟨0, some (2 * n + 6), 1, 0, List.replicate n 0⟩, ⟨160, some (165 + n), 0, 0, []⟩, ⟨166 + n, some (171 + 2 * n), 0, 1, []⟩, ⟨320, some (326 + 2 * n), 2, 0, vs⟩] := rfl
theorem cevs_err (n : Nat) (vs : List Int) : NoErr (cevs n vs) := by
  intro e he
  simp only [cevs, List.mem_cons, List.not_mem_nil, or_false] at he
  rcases he with rfl | rfl | rfl | rfl | rfl | rfl | rfl | rfl <;> rfl
set_option maxRecDepth 1000000 in
theorem ctell_1 (a : Int) : (play (cmachT 1 [a]) (csl 3 0)).evs = cevs 1 [a] := by kernel_rfl
set_option maxRecDepth 1000000 in
theorem ctell_2 (a b : Int) : (play (cmachT 2 [a, b]) (csl 3 0)).evs = cevs 2 [a, b] := by kernel_rfl
set_option maxRecDepth 1000000 in
theorem ctell_3 (a b c : Int) : (play (cmachT 3 [a, b, c]) (csl 3 0)).evs = cevs 3 [a, b, c] := by kernel_rfl
set_option maxRecDepth 1000000 in
theorem ctell_4 (a b c d : Int) : (play (cmachT 4 [a, b, c, d]) (csl 3 0)).evs = cevs 4 [a, b, c, d] := by kernel_rfl
set_option maxRecDepth 1000000 in
theorem ctell_5 (a b c d e : Int) : (play (cmachT 5 [a, b, c, d, e]) (csl 3 0)).evs = cevs 5 [a, b, c, d, e] := by kernel_rfl
set_option maxRecDepth 1000000 in
theorem ctell_6 (a b c d e f : Int) : (play (cmachT 6 [a, b, c, d, e, f]) (csl 3 0)).evs = cevs 6 [a, b, c, d, e, f] := by kernel_rfl
theorem cell_tells {n : Nat} (h1 : 1 ≤ n) (h6 : n ≤ 6) (vs : List Int) (hl : vs.length = n) : (play (cmachT n vs) (csl 3 0)).evs = cevs n vs := by
  rcases (show n = 1 ∨ n = 2 ∨ n = 3 ∨ n = 4 ∨ n = 5 ∨ n = 6 by omega) with rfl | rfl | rfl | rfl | rfl | rfl
  · match vs, hl with
    | [a], _ => exact ctell_1 a
  · match vs, hl with
    | [a, b], _ => exact ctell_2 a b
  · match vs, hl with
    | [a, b, c], _ => exact ctell_3 a b c
  · match vs, hl with
    | [a, b, c, d], _ => exact ctell_4 a b c d
  · match vs, hl with
    | [a, b, c, d, e], _ => exact ctell_5 a b c d e
  · match vs, hl with
    | [a, b, c, d, e, f], _ => exact ctell_6 a b c d e f
theorem cth_T (n : Nat) (vs : List Int) (j : Nat) : upd (cth n 2 1 1) 0 ((cth n 2 1 1 0).set 1 ⟨0, vs⟩) j = if j < 4 then [[⟨0, cargs n 0⟩, ⟨0, vs⟩], [⟨1, []⟩], [⟨1, []⟩], [⟨1, []⟩]].getD j [] else [] := by
  unfold upd
  match j with
  | 0 => rfl
  | 1 => rfl
  | 2 => rfl
  | 3 => rfl
  | j + 4 =>
    rw [if_neg (by omega), if_neg (by omega)]
    unfold cth
    rw [if_neg (by omega), if_neg (by omega)]
/-- a call's arguments are replaced -/
theorem MN.setArg {W0 w : World} {nc nt Cb T : Nat} {cv tv : Nat → Value} {ks : Nat → List Op5} {th : Nat → List VCall} {av : Nat → List SV} (h : MN W0.heap.size w nc nt Cb T cv ks tv th av) (hW : Below W0.heap.size W0 w) {j c : Nat} (hj : j < nt) {x : VCall} (hx : (th j)[c]? = some x) {args' : List Int} {a' : SV} (ha : w.ownsRow W0.heap.size 3 1 a'.v args'.length (args'.flatMap gI)) {br n cap : Nat} (htv : tv j = .slice (some ⟨br, 0, none⟩) n cap) :
    MN W0.heap.size (w.setCell ⟨br, c * 2 + 1, none⟩ a'.v) nc nt Cb T cv ks tv (upd th j ((th j).set c ⟨x.code, args'⟩)) (upd av j ((av j).set c a')) ∧ Below W0.heap.size W0 (w.setCell ⟨br, c * 2 + 1, none⟩ a'.v) := by
  obtain ⟨r1, r2, r3⟩ := h.rows j hj
  have hcl := (List.getElem?_eq_some_iff.1 hx).1
  obtain ⟨a, hax⟩ : ∃ a, (av j)[c]? = some a := ⟨_, List.getElem?_eq_getElem (by rw [r1]; exact hcl)⟩
  have hz : ((th j).zip (av j))[c]? = some (x, a) := by rw [List.getElem?_zip_eq_some]; exact ⟨hx, hax⟩
  have hO : Ow W0 w 49 2 gS (.slice (some ⟨br, 0, none⟩) n cap) ((th j).zip (av j)) := by
    refine ⟨?_, hW⟩
    have h1 := r2
    rw [htv] at h1
    rw [List.length_zip, r1, Nat.min_self]
    exact h1
  have hO2 := hO.setG (sz := 2) (g := gS) (x := (x, a)) (y := (⟨x.code, args'⟩, a')) (u := a'.v) (j := 1) (fun _ => rfl) hz (show 1 < 2 by decide) rfl
  have hC : Chg (fun k => k = br) w (w.setCell ⟨br, c * 2 + 1, none⟩ a'.v) := (Chg.refl (fun k => k = br) w).setCell (p := ⟨br, c * 2 + 1, none⟩) (fun _ => rfl) a'.v
  obtain ⟨b', cur, hA, _, _, hB, _⟩ := hO.rowG (by rw [List.length_zip, r1, Nat.min_self]; omega)
  injection hA with hA; injection hA with hA; subst hA
  have bk : ∀ {g t : Nat} {cs : Array Value}, t ≠ 49 → Blk w g t cs → Blk (w.setCell ⟨br, c * 2 + 1, none⟩ a'.v) g t cs := fun h1 h2 => hC.blk h2 fun e => by subst e; exact h1 (blk_ty h2 hB)
  have ok : ∀ {B e sz : Nat} {v' : Value} {n : Nat} {xs : List Value}, e ≠ 49 → w.ownsRow B e sz v' n xs → (w.setCell ⟨br, c * 2 + 1, none⟩ a'.v).ownsRow B e sz v' n xs := fun h1 h2 => own_chg h2 hC fun k hk e => own_ne_blk h2 hB h1 (by rw [hk, e])
  refine ⟨⟨h.geC, h.geT, bk (by decide) h.cb, bk (by decide) h.tb, fun i hi => ok (by decide) (h.os i hi), fun i hi => ?_, h.dist⟩, hO2.below⟩
  unfold upd
  by_cases e : i = j
  · subst e
    rw [if_pos rfl, if_pos rfl]
    refine ⟨by simp [r1], ?_, fun k c' v hk hv => ?_⟩
    · have h2 := hO2.own
      rw [htv]
      have e2 : ((th i).zip (av i)).set c (⟨x.code, args'⟩, a') = ((th i).set c ⟨x.code, args'⟩).zip ((av i).set c a') := by
        refine List.ext_getElem? fun q => ?_
        rw [List.getElem?_set]
        by_cases hq : c = q
        · subst hq
          rw [if_pos rfl, if_pos (by rw [List.length_zip, r1, Nat.min_self]; exact hcl)]
          symm
          rw [List.getElem?_zip_eq_some]
          exact ⟨by rw [List.getElem?_set_self hcl], by rw [List.getElem?_set_self (by rw [r1]; exact hcl)]⟩
        · rw [if_neg hq]
          unfold List.zip
          rw [List.getElem?_zipWith, List.getElem?_zipWith, List.getElem?_set_ne hq, List.getElem?_set_ne hq]
      rw [e2] at h2
      rw [List.length_zip, List.length_set, List.length_set, r1, Nat.min_self] at h2
      rw [List.length_set]
      exact h2
    · rcases get_set hk with ⟨rfl, rfl⟩ | ⟨h1, h2⟩
      · rw [List.getElem?_set_self (by rw [r1]; exact hcl)] at hv
        injection hv with hv; subst hv
        exact ok (by decide) ha
      · rw [List.getElem?_set_ne (fun e => h1 e.symm)] at hv
        exact ok (by decide) (r3 k c' v h2 hv)
  · rw [if_neg e, if_neg e]
    obtain ⟨s1, s2, s3⟩ := h.rows i hi
    refine ⟨s1, ?_, fun k c' v hk hv => ok (by decide) (s3 k c' v hk hv)⟩
    refine own_chg s2 hC fun k hk e2 => ?_
    subst e2
    exact h.dist i j hi hj e _ hk (by rw [htv]; rfl)
theorem cmachT_at {W0 w : World} {Cb T n : Nat} {cv tv : Nat → Value} {av : Nat → List SV} {vs : List Int} (h : MN W0.heap.size w 2 4 Cb T cv (fun i => [cputCode n, cgetCode n].getD i []) tv (upd (cth n 2 1 1) 0 ((cth n 2 1 1 0).set 1 ⟨0, vs⟩)) av) (h1 : 1 ≤ n) (h6 : n ≤ 6) (hv : vs.length ≤ 8) : MachAt w (some ⟨Cb, 0, none⟩) 2 (some ⟨T, 0, none⟩) 4 (cmachT n vs) := by
  refine h.at_ rfl ?_ (fun i hi => ?_) (fun j hj => ?_)
  · have e : (List.range 4).map (upd (cth n 2 1 1) 0 ((cth n 2 1 1 0).set 1 ⟨0, vs⟩)) = [upd (cth n 2 1 1) 0 ((cth n 2 1 1 0).set 1 ⟨0, vs⟩) 0, upd (cth n 2 1 1) 0 ((cth n 2 1 1 0).set 1 ⟨0, vs⟩) 1, upd (cth n 2 1 1) 0 ((cth n 2 1 1 0).set 1 ⟨0, vs⟩) 2, upd (cth n 2 1 1) 0 ((cth n 2 1 1 0).set 1 ⟨0, vs⟩) 3] := rfl
    rw [e, cth_T, cth_T, cth_T, cth_T]
    rfl
  · rcases (show i = 0 ∨ i = 1 by omega) with rfl | rfl
    · exact ⟨by show (cputCode n).length ≤ 200; rw [cput_len h1 h6]; omega, cput_sh h1 h6⟩
    · exact ⟨by show (cgetCode n).length ≤ 200; rw [cget_len h1 h6]; omega, cget_sh h1 h6⟩
  · rw [cth_T, if_pos hj]
    have hca : (cargs n 0).length ≤ 8 := by unfold cargs; simp; omega
    rcases (show j = 0 ∨ j = 1 ∨ j = 2 ∨ j = 3 by omega) with rfl | rfl | rfl | rfl
    · refine ⟨Nat.le_of_ble_eq_true rfl, fun c hc => ?_⟩
      have hc : c ∈ [(⟨0, cargs n 0⟩ : VCall), ⟨0, vs⟩] := hc
      simp only [List.mem_cons, List.not_mem_nil, or_false] at hc
      rcases hc with rfl | rfl
      · exact ⟨by show 0 < 2; decide, hca⟩
      · exact ⟨by show 0 < 2; decide, hv⟩
    all_goals
      refine ⟨Nat.le_of_ble_eq_true rfl, fun c hc => ?_⟩
      have hc : c ∈ [(⟨1, []⟩ : VCall)] := hc
      rw [List.mem_singleton.1 hc]
      exact ⟨by decide, by decide⟩
end Go.Proofs.YtbcjgnigdddlkaaDoor
