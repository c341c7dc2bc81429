/-
  vm.Begin, slices.Clone, vm.Run: their walks.
-/
import Derived.Test.YtabmkjokeeakdaaDoorVmMay
import Derived.Laws.CopyOwn
namespace Go.Proofs.YtabmkjokeeakdaaDoor
open Go.RowKit
set_option linter.unusedVariables false

def vbegin (n : Nat) (args : List Int) : Th := { regs := args ++ List.replicate (24 - args.length) 0, pc := 0, told := [], err := 0, over := decide (n = 0) }
theorem vbegin_len (n : Nat) (args : List Int) (h : args.length ≤ 24) : (vbegin n args).regs.length = 24 := by unfold vbegin; simp; omega
theorem th_splice (cv : Value) (args : List Int) (h : args.length ≤ 24) (tv : Value) (ov : Bool) : splice (thL cv (List.replicate 24 0) 0 tv 0 ov) 1 (ints args) = thL cv (args ++ List.replicate (24 - args.length) 0) 0 tv 0 ov := by
  unfold splice thL
  rw [List.take_succ_cons, List.take_zero, show 1 + (ints args).length = (ints args).length + 1 by omega, List.drop_succ_cons, ints_length]
  rw [show ints (args ++ List.replicate (24 - args.length) 0) = ints args ++ ints (List.replicate (24 - args.length) 0) from ints_append _ _]
  have e : ints (List.replicate 24 0) = ints (List.replicate args.length 0) ++ ints (List.replicate (24 - args.length) 0) := by rw [← ints_append, List.replicate_append_replicate]; congr 2; omega
  rw [e, List.append_assoc, List.drop_left' (by rw [ints_length]; simp), List.cons_append, List.nil_append, List.append_assoc]
set_option maxHeartbeats 1000000 in
set_option maxRecDepth 100000 in
theorem vm_begin (cv : Value) (A2 A : Option Addr) (m c2 n c : Nat) (args : List Int) (w : World) (hcv : cv = .slice A2 m c2) (hn : n ≤ 24) (ha : Sl w 1 A n (ints args)) :
    Calls Tryd.prog 60 #[cv, .slice A n c] w fun e w' => e = .returned (.pointer (some ⟨w.heap.size, 0, none⟩)) ∧ Tb w' w.heap.size cv (vbegin m args).regs 0 (.slice none 0 0) 0 (vbegin m args).over ∧ Below w.heap.size w w' ∧ w.heap.size < w'.heap.size := by
  subst hcv
  have HA := hid ha
  have hl := ha.leni
  have HL := hid hl
  clear ha hl
  have HB0 : Hid ((w.alloc (.cells #[.slice A2 m c2, .int .i64 0, .int .i64 0, .int .i64 0, .int .i64 0, .int .i64 0, .int .i64 0, .int .i64 0, .int .i64 0, .int .i64 0, .int .i64 0, .int .i64 0, .int .i64 0, .int .i64 0, .int .i64 0, .int .i64 0, .int .i64 0, .int .i64 0, .int .i64 0, .int .i64 0, .int .i64 0, .int .i64 0, .int .i64 0, .int .i64 0, .int .i64 0, .int .i64 0, .slice none 0 0, .int .i64 0, .bool false] 97)).heap[w.heap.size]? = some (.cells (thL (.slice A2 m c2) (List.replicate 24 0) 0 (.slice none 0 0) 0 false).toArray 97 (0, 0))) := hid (Blk.new w 97 (thA (.slice A2 m c2) (List.replicate 24 0) 0 (.slice none 0 0) 0 false))
  go_enter Tryd.func60, Tryd.ntmps60
  have s1 : (ints args).length = Nat.min n 24 := by rw [ints_length, HL.out]; exact (Nat.min_eq_left hn).symm
  have s2 : 0 < (ints args).length → ∃ ad, A = some ad ∧ ∀ j v, (ints args)[j]? = some v → (w.alloc (.cells #[.slice A2 m c2, .int .i64 0, .int .i64 0, .int .i64 0, .int .i64 0, .int .i64 0, .int .i64 0, .int .i64 0, .int .i64 0, .int .i64 0, .int .i64 0, .int .i64 0, .int .i64 0, .int .i64 0, .int .i64 0, .int .i64 0, .int .i64 0, .int .i64 0, .int .i64 0, .int .i64 0, .int .i64 0, .int .i64 0, .int .i64 0, .int .i64 0, .int .i64 0, .int .i64 0, .slice none 0 0, .int .i64 0, .bool false] 97)).cell? (ad.add j) = some v := fun h0 => by obtain ⟨ad, e1, e2⟩ := (HA.out.below (bnew (bnil w) (.cells #[.slice A2 m c2, .int .i64 0, .int .i64 0, .int .i64 0, .int .i64 0, .int .i64 0, .int .i64 0, .int .i64 0, .int .i64 0, .int .i64 0, .int .i64 0, .int .i64 0, .int .i64 0, .int .i64 0, .int .i64 0, .int .i64 0, .int .i64 0, .int .i64 0, .int .i64 0, .int .i64 0, .int .i64 0, .int .i64 0, .int .i64 0, .int .i64 0, .int .i64 0, .int .i64 0, .slice none 0 0, .int .i64 0, .bool false] 97))).2 (by rw [ints_length, HL.out] at h0; exact h0); exact ⟨ad, e1, e2⟩
  have s3 : 1 + (ints args).length ≤ (thL (.slice A2 m c2) (List.replicate 24 0) 0 (.slice none 0 0) 0 false).length := by
    unfold thL
    rw [List.length_cons, List.length_append, ints_length, ints_length, HL.out, List.length_replicate]; simp; omega
  have S1 := hid s1; have S2 := hid s2; have S3 := hid s3
  clear s1 s2 s3
  go_wp2_with (with_reducible refine wpList_copy_splice (o := ⟨some 14, _, _, _, _, _⟩) ?_ (.tmp 12) (.tmp 13) 25 25 ?_ 3 ?_ ?_ (some ⟨w.heap.size, 1, none⟩) A 24 24 n c ?_ ?_ w.heap.size 1 (thL (.slice A2 m c2) (List.replicate 24 0) 0 (.slice none 0 0) 0 false) 97 ?_ (ints args) ?_ ?_ ?_ ?_ w.heap.size w ?_ ?_ ?_)
  · exact rfl
  · exact rfl
  · kernel_rfl
  · kernel_rfl
  · exact rfl
  · exact rfl
  · exact HB0.out
  · exact S1.out
  · exact S2.out
  · exact S3.out
  · exact ints_one _
  · exact bnew (bnil w) _
  · exact Nat.le_refl _
  intro w2 HG hb2
  have hg : w2.heap[w.heap.size]? = some (.cells (splice (thL (.slice A2 m c2) (List.replicate 24 0) 0 (.slice none 0 0) 0 false) 1 (ints args)).toArray 97 (0, 0)) := HG.out
  rw [th_splice _ _ (by rw [HL.out]; exact hn)] at hg
  have hlen : (args ++ List.replicate (24 - args.length) 0).length = 24 := vbegin_len m args (by rw [HL.out]; exact hn)
  have HG2 : Hid (Tb w2 w.heap.size (.slice A2 m c2) (args ++ List.replicate (24 - args.length) 0) 0 (.slice none 0 0) 0 false) := hid hg
  have HLN := hid hlen
  obtain ⟨co, fo⟩ := HG2.out.cov hlen
  clear HG hg HB0 S1 S2 S3 hlen
  have HM := hid (show decide (m = 0) = ((m : Int) == 0) by by_cases h : m = 0 <;> simp [h])
  go_wp2
  go_ret
  refine ⟨rfl, ?_, ?_, ?_⟩
  · show Tb _ _ _ (args ++ List.replicate (24 - args.length) 0) 0 (.slice none 0 0) 0 (decide (m = 0))
    rw [HM.out]
    exact HG2.out.sov HLN.out _
  · exact hb2.setCell (p := ⟨w.heap.size, 28, none⟩) (Nat.le_refl _) _
  · rw [show (World.setCell w2 ⟨w.heap.size, 28, none⟩ _).heap.size = w2.heap.size by simp [World.setCell]]
    exact HG2.out.lt
theorem same_ints (A B : Option Addr) (n c d : Nat) (l : List Int) (w : World) (hn : n ≤ 9223372036854775807) (hA : Sl w 1 A n (ints l)) (hB : Sl w 1 B n (ints l)) :
    Calls Tryd.prog 23 #[.slice A n c, .slice B n d] w fun e w' => e = .returned (.bool true) ∧ Below w.heap.size w w' := by
  have HA := hid hA; have HB := hid hB; clear hA hB
  have hnn : ((n : Int) != (n : Int)) = false := by simp
  go_enter Tryd.func23, Tryd.ntmps23
  go_wp2
  go_loopw [5] (fun i wr => ∃ k : Nat, k ≤ n ∧ i = .int .i64 k ∧ Below w.heap.size w wr) (fun i _ => n - (intOf i).toNat)
  case atStart => exact ⟨0, Nat.zero_le _, rfl, bnil _⟩
  case round =>
    obtain ⟨k, hk, rfl, hb⟩ := hrel
    have HW := hid hb; clear hb
    by_cases hlt : k < n
    · obtain ⟨ad, x, rfl, hx, c1⟩ := (HA.out.below HW.out).ati hlt
      obtain ⟨ad', x', rfl, hx', c2⟩ := (HB.out.below HW.out).ati hlt
      obtain rfl : x = x' := by rw [hx] at hx'; injection hx'
      clear hx hx'
      have hq : ((x : Int) != (x : Int)) = false := by simp
      have i1 : (k : Int) < (n : Int) := by omega
      go_wp2_with fail
      go_region
      all_goals
        go_wp2
        go_roundw
        case rel => exact ⟨k + 1, by omega, by go_num, HW.out.drew⟩
        case measure => simp [intOf] <;> omega
    · obtain rfl : k = n := by omega
      go_wp2
      go_ret
      exact ⟨rfl, HW.out⟩
theorem clone_ints (A : Option Addr) (n c : Nat) (l : List Int) (w : World) (hn : n ≤ 1000000) (h : Sl w 1 A n (ints l)) :
    Calls Tryd.prog 59 #[.slice A n c] w fun e w' => ∃ v, e = .returned v ∧ Ow w w' 3 1 gI v l := by
  have H := hid h; clear h
  have hl := H.out.leni
  have H0 := hid (⟨⟨rfl, .inr ⟨w.heap.size, 0, #[], rfl, Nat.le_refl _, Blk.new w _ _, Nat.le_refl _, by simp [maxLen], rfl, rfl⟩⟩, bnew (bnil w) _⟩ : Ow w (w.alloc (.cells #[] 3)) 3 1 gI (.slice (some ⟨w.heap.size, 0, none⟩) 0 0) [])
  have hnil := fun (w : World) => Go.Lib.run_eql_slice_nil (P := Tryd.prog) w 25 3 A n c 0 0 Tryd.underlying25
  rcases A with _ | ad
  · obtain rfl : n = 0 := by
      rcases Nat.eq_zero_or_pos n with h | h
      · exact h
      · obtain ⟨ad, e, _⟩ := H.out.2 h; simp at e
    obtain rfl : l = [] := List.eq_nil_of_length_eq_zero hl
    go_enter Tryd.func59, Tryd.ntmps59
    go_wp2
    go_ret
    exact ⟨_, rfl, Ow.nil _ _ _ _⟩
  · go_enter Tryd.func59, Tryd.ntmps59
    go_wp2_with (at_builtin; refine wpList_appY elmI gI_one rfl (.tmp 5) (.tmp 6) rfl (.slice (some ⟨w.heap.size, 0, none⟩) 0 0) [] rfl H0.out l l (hid (List.nil_append _)) rfl (H.out.below (bnew (bnil w) _)) hl (by simp only [maxLen]; omega) (by omega) ?_; intro A4 c4 w4 _ _ HN1 _ _)
    go_ret
    have HN := HN1.out
    rw [hl] at HN
    exact ⟨_, rfl, HN⟩
theorem VI.begin (code : List Op5) (args : List Int) : VI code (vbegin code.length args) := ⟨by simp [vbegin], fun h => by unfold vbegin at h ⊢; simp only [decide_eq_false_iff_not] at h; show 0 < code.length; omega⟩
theorem VI.step {code : List Op5} {t : Th} {ws : List Int} (hok : ∀ o ∈ code, OpOk code.length o) (h : VI code t) : VI code (vstep code t ws).1 := by
  unfold vstep
  split
  · exact h
  · rename_i hov
    have hpc := h.pc (by simpa using hov)
    rw [List.getElem?_eq_getElem hpc]
    have ho := hok _ (List.getElem_mem hpc)
    generalize code[t.pc] = o at ho
    have K : (vdo o { t with pc := t.pc + 1 } ws).1.told.length ≤ 200 ∧ (vdo o { t with pc := t.pc + 1 } ws).1.pc ≤ code.length := by
      obtain ⟨k, a, b, c, d⟩ := o
      obtain ⟨o1, o2, o3, o4, o5, o6, o7⟩ := ho
      simp only at o1 o2 o3 o4 o5 o6 o7
      have ht := h.told
      unfold vdo
      simp only
      iterate 9 (split; exact ⟨ht, hpc⟩)
      unfold vother
      simp only
      split
      · exact ⟨ht, by have := o3 (by assumption); show a.toNat ≤ _; omega⟩
      · split
        · split
          · exact ⟨ht, by have := o5 (.inl (by assumption)); show b.toNat ≤ _; omega⟩
          · exact ⟨ht, hpc⟩
        · split
          · split
            · exact ⟨ht, by have := o5 (.inr (by assumption)); show b.toNat ≤ _; omega⟩
            · exact ⟨ht, hpc⟩
          · split
            · split
              · exact ⟨ht, hpc⟩
              · refine ⟨?_, hpc⟩
                show (t.told ++ [vget t.regs a]).length ≤ 200
                rw [List.length_append]; simp; omega
            · split
              · exact ⟨ht, hpc⟩
              · split
                · exact ⟨ht, hpc⟩
                · split
                  · exact ⟨ht, hpc⟩
                  · split
                    · exact ⟨ht, hpc⟩
                    · split <;> exact ⟨ht, hpc⟩
    refine ⟨K.1, fun hf => ?_⟩
    simp only [Bool.or_eq_false_iff, decide_eq_false_iff_not] at hf
    have := K.2
    show (vdo o { t with pc := t.pc + 1 } ws).1.pc < code.length
    omega
theorem vrun_one (code : List Op5) (s : Th × List Int) (h : s.1.over = false) : vrun code 1 s = vstep code s.1 s.2 ∧ vcount code 1 s = 1 := by
  rw [vrun, vcount, if_neg (by rw [h]; decide), if_neg (by rw [h]; decide)]
  exact ⟨rfl, rfl⟩
/-- what a run leaves -/
def vres (code : List Op5) (args ws : List Int) (L : Nat) : Th × List Int := vrun code L (vbegin code.length args, ws)
def verr (t : Th) : Int := if t.over then (t.err : Int) else 11
theorem own_ge {w : World} {B e sz : Nat} {v : Value} {n : Nat} {xs : List Value} (h : w.ownsRow B e sz v n xs) : ∀ k, v.ownBlock = some k → B ≤ k ∧ k < w.heap.size := by
  intro k hk
  rcases h.2 with ⟨rfl, _⟩ | ⟨g, cap, cur, rfl, hb, hh, _⟩
  · simp [Value.ownBlock] at hk
  · obtain rfl : g = k := by simpa [Value.ownBlock] using hk
    exact ⟨hb, (Array.getElem?_eq_some_iff.1 hh).1⟩
end Go.Proofs.YtabmkjokeeakdaaDoor
