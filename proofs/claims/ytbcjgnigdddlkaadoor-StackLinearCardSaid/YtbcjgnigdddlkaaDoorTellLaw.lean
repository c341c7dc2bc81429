/-
  Package count, one call behind the other: plain laws.
-/
import Derived.Test.YtbcjgnigdddlkaaDoorPlayInd
import Derived.Test.YtbcjgnigdddlkaaDoorCodes1
namespace Go.Proofs.YtbcjgnigdddlkaaDoor
open Go.RowKit
set_option linter.unusedVariables false

/-! ### one thread alone, step by step -/
section
variable {m : Mach} {calls : List VCall} (hm : m.threads = [calls]) {i nx ci : Nat} {ws ws' : List Int} {evs : List Ev} {c : VCall} {t t' : Th}
include hm
theorem solo_begin (hc : calls[nx]? = some c) (hv : vstep (m.codes.getD c.code []) (vbegin (m.codes.getD c.code []).length c.args) ws = (t', ws')) (ho : t'.over = false) :
    pstep m i 0 ⟨[⟨nx, none⟩], ws, evs⟩ = ⟨[⟨nx + 1, some (c.code, t')⟩], ws', evs ++ [⟨i, 0, nx, false, 0, []⟩]⟩ := by
  unfold pstep
  rw [hm]
  simp only [List.getElem?_cons_zero, pbeg, hc, pact, hv, ho, Bool.false_eq_true, if_false, List.set_cons_zero]
theorem solo_cont (hv : vstep (m.codes.getD ci []) t ws = (t', ws')) (ho : t'.over = false) :
    pstep m i 0 ⟨[⟨nx, some (ci, t)⟩], ws, evs⟩ = ⟨[⟨nx, some (ci, t')⟩], ws', evs⟩ := by
  unfold pstep
  rw [hm]
  simp only [List.getElem?_cons_zero, pbeg, pact, hv, ho, Bool.false_eq_true, if_false, List.set_cons_zero, List.append_nil]
theorem solo_fin (hv : vstep (m.codes.getD ci []) t ws = (t', ws')) (ho : t'.over = true) :
    pstep m i 0 ⟨[⟨nx, some (ci, t)⟩], ws, evs⟩ = ⟨[⟨nx, none⟩], ws', evs ++ [⟨i, 0, nx - 1, true, t'.err, t'.told⟩]⟩ := by
  unfold pstep
  rw [hm]
  simp only [List.getElem?_cons_zero, pbeg, pact, hv, ho, if_true, List.set_cons_zero, List.nil_append]
theorem solo_idle (hc : calls[nx]? = none) : pstep m i 0 ⟨[⟨nx, none⟩], ws, evs⟩ = ⟨[⟨nx, none⟩], ws, evs⟩ := by
  unfold pstep
  rw [hm]
  simp only [List.getElem?_cons_zero, pbeg, hc, pact]
end
/-! ### the codes, one step each -/
def addTh (p : Nat) (n o z : Int) : Th := ⟨n :: o :: 0 :: z :: List.replicate 20 0, p, [], 0, false⟩
def getTh (p : Nat) (o : Int) : Th := ⟨o :: List.replicate 23 0, p, [], 0, false⟩
theorem add_begin (n : Int) : vbegin addCode.length [n] = addTh 0 n 0 0 := rfl
theorem get_begin : vbegin getCode.length [] = getTh 0 0 := rfl
theorem add_0 (n s o z : Int) : vstep addCode (addTh 0 n o z) [s] = (addTh 1 n s z, [s]) := by
  unfold vstep vdo vother
  simp only [addTh, addCode, List.getElem?_cons_zero]
  simp [vget, vset, wrap64]
theorem add_1 (n o z : Int) (ws : List Int) : vstep addCode (addTh 1 n o z) ws = (addTh 2 n o (wrap64 (o + n)), ws) := rfl
theorem add_2 (n s o z : Int) : vstep addCode (addTh 2 n o z) [s] = (if s = o then (addTh 3 n o 1, [z]) else (addTh 3 n o 0, [s])) := by
  unfold vstep vdo vother
  simp only [addTh, addCode, List.getElem?_cons_succ, List.getElem?_cons_zero]
  simp [vget, vset, wrap64]
  split <;> rfl
theorem add_3a (n o : Int) (ws : List Int) : vstep addCode (addTh 3 n o 1) ws = (addTh 4 n o 1, ws) := rfl
theorem add_3b (n o : Int) (ws : List Int) : vstep addCode (addTh 3 n o 0) ws = (addTh 0 n o 0, ws) := rfl
theorem add_4 (n o z : Int) (ws : List Int) : vstep addCode (addTh 4 n o z) ws = (⟨n :: o :: 0 :: z :: List.replicate 20 0, 5, [o], 0, true⟩, ws) := rfl
theorem get_0 (s o : Int) : vstep getCode (getTh 0 o) [s] = (getTh 1 s, [s]) := by
  unfold vstep vdo vother
  simp only [getTh, getCode, List.getElem?_cons_zero]
  simp [vget, vset, wrap64]
theorem get_1 (o : Int) (ws : List Int) : vstep getCode (getTh 1 o) ws = (⟨o :: List.replicate 23 0, 2, [o], 0, true⟩, ws) := rfl
/-! ### the sequence -/
def tval (xs : List Int) (k : Nat) : Int := match xs[k]? with | some x => x | none => 1
/-- the number when k were added -/
def tsum (xs : List Int) : Nat → Int
  | 0 => 0
  | k + 1 => wrap64 (tsum xs k + tval xs k)
def tcalls (xs : List Int) : Nat → List VCall
  | 0 => []
  | k + 1 => tcalls xs k ++ [⟨0, [tval xs k]⟩, ⟨1, []⟩]
def twant (xs : List Int) : Nat → List Int
  | 0 => []
  | k + 1 => twant xs k ++ [tsum xs k, tsum xs (k + 1)]
theorem tcalls_len (xs : List Int) : ∀ k, (tcalls xs k).length = 2 * k
  | 0 => rfl
  | k + 1 => by unfold tcalls; rw [List.length_append, tcalls_len xs k]; simp; omega
theorem twant_len (xs : List Int) : ∀ k, (twant xs k).length = 2 * k
  | 0 => rfl
  | k + 1 => by unfold twant; rw [List.length_append, twant_len xs k]; simp; omega
theorem tcalls_at (xs : List Int) : ∀ (k q : Nat), q < k → (tcalls xs k)[2 * q]? = some ⟨0, [tval xs q]⟩ ∧ (tcalls xs k)[2 * q + 1]? = some ⟨1, []⟩
  | 0, q, h => by omega
  | k + 1, q, h => by
    unfold tcalls
    by_cases e : q < k
    · obtain ⟨h1, h2⟩ := tcalls_at xs k q e
      rw [List.getElem?_append_left (by rw [tcalls_len]; omega), List.getElem?_append_left (by rw [tcalls_len]; omega)]
      exact ⟨h1, h2⟩
    · obtain rfl : q = k := by omega
      rw [List.getElem?_append_right (by rw [tcalls_len]; omega), List.getElem?_append_right (by rw [tcalls_len]; omega), tcalls_len]
      rw [Nat.sub_self, show 2 * q + 1 - 2 * q = 1 by omega]
      exact ⟨rfl, rfl⟩
def tmach (xs : List Int) : Mach := ⟨[0], [addCode, getCode], [tcalls xs 9]⟩
def tevs (xs : List Int) : Nat → List Ev
  | 0 => []
  | k + 1 => tevs xs k ++ [⟨7 * k, 0, 2 * k, false, 0, []⟩, ⟨7 * k + 4, 0, 2 * k, true, 0, [tsum xs k]⟩, ⟨7 * k + 5, 0, 2 * k + 1, false, 0, []⟩, ⟨7 * k + 6, 0, 2 * k + 1, true, 0, [tsum xs (k + 1)]⟩]
def tdgs (xs : List Int) : Nat → List Dg
  | 0 => []
  | k + 1 => tdgs xs k ++ [⟨7 * k, some (7 * k + 4), 0, 2 * k, [tsum xs k]⟩, ⟨7 * k + 5, some (7 * k + 6), 0, 2 * k + 1, [tsum xs (k + 1)]⟩]
def tst (xs : List Int) (k : Nat) : PS := ⟨[⟨2 * k, none⟩], [tsum xs k], tevs xs k⟩
theorem t_iter (xs : List Int) (q : Nat) (hq : q < 9) : prun (tmach xs) (7 * q) [0, 0, 0, 0, 0, 0, 0] (tst xs q) = tst xs (q + 1) := by
  obtain ⟨h1, h2⟩ := tcalls_at xs 9 q hq
  have hm : (tmach xs).threads = [tcalls xs 9] := rfl
  simp only [prun, tst]
  rw [solo_begin hm h1 (t' := addTh 1 (tval xs q) (tsum xs q) 0) (ws' := [tsum xs q]) (by show vstep addCode (vbegin addCode.length [tval xs q]) _ = _; rw [add_begin, add_0]) rfl]
  rw [solo_cont hm (t' := addTh 2 (tval xs q) (tsum xs q) (wrap64 (tsum xs q + tval xs q))) (ws' := [tsum xs q]) (by show vstep addCode _ _ = _; rw [add_1]) rfl]
  rw [solo_cont hm (t' := addTh 3 (tval xs q) (tsum xs q) 1) (ws' := [tsum xs (q + 1)]) (by show vstep addCode _ _ = _; rw [add_2, if_pos rfl]; rfl) rfl]
  rw [solo_cont hm (t' := addTh 4 (tval xs q) (tsum xs q) 1) (ws' := [tsum xs (q + 1)]) (by show vstep addCode _ _ = _; rw [add_3a]) rfl]
  rw [solo_fin hm (by show vstep addCode _ _ = _; rw [add_4]) rfl]
  rw [solo_begin hm h2 (t' := getTh 1 (tsum xs (q + 1))) (ws' := [tsum xs (q + 1)]) (by show vstep getCode (vbegin getCode.length []) _ = _; rw [get_begin, get_0]) rfl]
  rw [solo_fin hm (by show vstep getCode _ _ = _; rw [get_1]) rfl]
  simp [tevs, Nat.mul_add, Nat.add_assoc]
theorem t_iters (xs : List Int) : ∀ k, k ≤ 9 → prun (tmach xs) 0 (List.replicate (7 * k) 0) (tst xs 0) = tst xs k
  | 0, _ => rfl
  | k + 1, h => by
    rw [show List.replicate (7 * (k + 1)) 0 = List.replicate (7 * k) 0 ++ [0, 0, 0, 0, 0, 0, 0] by rw [show [0, 0, 0, 0, 0, 0, 0] = List.replicate 7 0 from rfl, List.replicate_append_replicate, Nat.mul_add], prun_append, t_iters xs k (by omega), List.length_replicate, Nat.zero_add, t_iter xs k (by omega)]
theorem t_idle (xs : List Int) : ∀ (n i : Nat), prun (tmach xs) i (List.replicate n 0) (tst xs 9) = tst xs 9
  | 0, i => rfl
  | n + 1, i => by
    rw [List.replicate_succ, prun]
    have h : pstep (tmach xs) i 0 (tst xs 9) = tst xs 9 := solo_idle (show (tmach xs).threads = [tcalls xs 9] from rfl) (by rw [List.getElem?_eq_none]; rw [tcalls_len]; omega)
    rw [h, t_idle xs n (i + 1)]
theorem t_play (xs : List Int) : play (tmach xs) (List.replicate 1080 0) = tst xs 9 := by
  have h : List.replicate 1080 0 = List.replicate (7 * 9) 0 ++ List.replicate 1017 0 := by rw [List.replicate_append_replicate]
  unfold play
  rw [h, prun_append, show pinit (tmach xs) = tst xs 0 from rfl, t_iters xs 9 (Nat.le_refl _), t_idle]
theorem tdgs_done (xs : List Int) : ∀ (k : Nat) (d : Dg), d ∈ tdgs xs k → d.e.isNone = false
  | 0, d, h => by cases h
  | k + 1, d, h => by
    unfold tdgs at h
    rcases List.mem_append.1 h with h | h
    · exact tdgs_done xs k d h
    · simp only [List.mem_cons, List.not_mem_nil, or_false] at h
      rcases h with rfl | rfl <;> rfl
theorem dstep_last {ds : List Dg} {d : Dg} {ev : Ev} (hf : ev.fin = true) (hd : ∀ x ∈ ds, x.e.isNone = false) (ho : dopen ev d = true) : dstep (ds ++ [d]) ev = ds ++ [{ d with e := some ev.step, told := ev.told }] := by
  unfold dstep
  rw [if_pos hf, List.map_append]
  congr 1
  · conv => rhs; rw [← List.map_id ds]
    refine List.map_congr_left fun x hx => ?_
    rw [if_neg]; · rfl
    unfold dopen
    rw [hd x hx]
    simp
  · simp [ho]
theorem tdgs_ok (xs : List Int) : ∀ k, doings (tevs xs k) = tdgs xs k
  | 0 => rfl
  | k + 1 => by
    unfold tevs tdgs
    rw [show ∀ (a b c d : Ev), tevs xs k ++ [a, b, c, d] = tevs xs k ++ [a] ++ [b] ++ [c] ++ [d] by intros; simp]
    rw [doings_snoc, doings_snoc, doings_snoc, doings_snoc, tdgs_ok xs k]
    rw [show dstep (tdgs xs k) ⟨7 * k, 0, 2 * k, false, 0, []⟩ = tdgs xs k ++ [⟨7 * k, none, 0, 2 * k, []⟩] from rfl]
    rw [dstep_last rfl (tdgs_done xs k) (by simp [dopen])]
    rw [show ∀ ds, dstep ds ⟨7 * k + 5, 0, 2 * k + 1, false, 0, []⟩ = ds ++ [⟨7 * k + 5, none, 0, 2 * k + 1, []⟩] from fun _ => rfl]
    rw [dstep_last rfl (fun x hx => by
      rcases List.mem_append.1 hx with h | h
      · exact tdgs_done xs k x h
      · rw [List.mem_singleton.1 h]; rfl) (by simp [dopen])]
    simp
theorem tdgs_told (xs : List Int) : ∀ (k : Nat), (tdgs xs k).map (·.told) = (twant xs k).map (fun x => [x])
  | 0 => rfl
  | k + 1 => by unfold tdgs twant; rw [List.map_append, tdgs_told xs k, List.map_append]; rfl
theorem tdgs_len (xs : List Int) : ∀ k, (tdgs xs k).length = 2 * k
  | 0 => rfl
  | k + 1 => by unfold tdgs; rw [List.length_append, tdgs_len xs k]; simp; omega
theorem tevs_err (xs : List Int) : ∀ k, NoErr (tevs xs k)
  | 0, e, h => by cases h
  | k + 1, e, h => by
    unfold tevs at h
    rcases List.mem_append.1 h with h | h
    · exact tevs_err xs k e h
    · simp only [List.mem_cons, List.not_mem_nil, or_false] at h
      rcases h with rfl | rfl | rfl | rfl <;> rfl
/-- the calls of the whole run -/
theorem tell_res (xs : List Int) : doings (play (tmach xs) (List.replicate 1080 0)).evs = tdgs xs 9 ∧ NoErr (play (tmach xs) (List.replicate 1080 0)).evs := by
  rw [t_play]
  exact ⟨tdgs_ok xs 9, tevs_err xs 9⟩
theorem tell_at (xs : List Int) (i : Nat) (d : Dg) (h : (tdgs xs 9)[i]? = some d) : (∃ e, d.e = some e) ∧ ∃ x, (twant xs 9)[i]? = some x ∧ d.told = [x] := by
  refine ⟨?_, ?_⟩
  · have := tdgs_done xs 9 d (List.mem_of_getElem? h)
    cases he : d.e with
    | none => rw [he] at this; cases this
    | some e => exact ⟨e, rfl⟩
  · have h1 : ((tdgs xs 9).map (·.told))[i]? = some d.told := by rw [List.getElem?_map, h]; rfl
    rw [tdgs_told, List.getElem?_map] at h1
    obtain ⟨x, h2, h3⟩ := Option.map_eq_some_iff.1 h1
    exact ⟨x, h2, h3.symm⟩
end Go.Proofs.YtbcjgnigdddlkaaDoor
