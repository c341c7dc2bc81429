/-
  bits.Write and bits.Read: their walks.
-/
import Derived.Test.YtejpcibcllnheaaPen
namespace Go.Proofs.Ytejpcibcllnheaa
open Go.RowKit
set_option linter.unusedVariables false

/-! ### fields -/
abbrev gF : Nat × Nat → List Value := fun f => [.int .i64 (f.1 : Int), .int .i64 (f.2 : Int)]
def fieldBits (l : List (Nat × Nat)) : List Bool := l.flatMap fun f => bitsOf f.1 f.2
theorem fieldBits_len (l : List (Nat × Nat)) (h : ∀ f ∈ l, f.1 ≤ 60) : (fieldBits l).length ≤ l.length * 60 := by
  induction l with
  | nil => simp [fieldBits]
  | cons f l ih =>
    have h1 := ih fun x hx => h x (List.mem_cons_of_mem _ hx)
    have h2 := h f (List.mem_cons_self ..)
    have e : fieldBits (f :: l) = bitsOf f.1 f.2 ++ fieldBits l := rfl
    rw [e, List.length_append, bitsOf_len, List.length_cons]; omega
theorem Sl.atF {w : World} {A : Option Addr} {n k : Nat} {l : List (Nat × Nat)} (h : Sl w 2 A n (l.flatMap gF)) (hk : k < n) :
    ∃ ad f, A = some ad ∧ l[k]? = some f ∧ w.cell? (ad.add (k * 2)) = some (.int .i64 (f.1 : Int)) ∧ w.cell? ⟨(ad.add (k * 2)).block, (ad.add (k * 2)).off + 1, none⟩ = some (.int .i64 (f.2 : Int)) := by
  obtain ⟨ad, e, hc⟩ := h.2 (by omega)
  have hl : k < l.length := by have := h.1; rw [flatMap_len gF 2 (fun _ => rfl)] at this; omega
  have hx : l[k]? = some l[k] := List.getElem?_eq_getElem hl
  exact ⟨ad, l[k], e, hx, hc (k * 2 + 0) _ (flatMap_at gF 2 (fun _ => rfl) l k 0 _ hx (by decide)), cell_next (by decide) (hc (k * 2 + 1) _ (flatMap_at gF 2 (fun _ => rfl) l k 1 _ hx (by decide)))⟩
theorem PenCh.blw {w w' : World} {v' : Value} {o : Obj} (h : PenCh w.heap.size (w.alloc o) (.slice none 0 0) w' v') : Below w.heap.size w w' := by
  refine (bnew (bnil w) o).trans ((h.chg.below (B := w.heap.size) (fun k hk => ?_) (by simp)).mono (Nat.le_refl _))
  rcases hk with rfl | hk
  · exact Nat.le_refl _
  · simp [Value.ownBlock] at hk

theorem own_above {w w' : World} {e sz n : Nat} {v' : Value} {xs : List Value} {o : Obj} (h : w'.ownsRow 0 e sz v' n xs) (hc : PenCh w.heap.size (w.alloc o) (.slice none 0 0) w' v') : w'.ownsRow w.heap.size e sz v' n xs := by
  refine ⟨h.1, ?_⟩
  rcases h.2 with h0 | ⟨g, cap, cur, hv, hg, hh, r⟩
  · exact .inl h0
  · refine .inr ⟨g, cap, cur, hv, ?_, hh, r⟩
    rcases hc.row g (by rw [hv]; rfl) with h1 | h1
    · simp [Value.ownBlock] at h1
    · simp at h1; omega
theorem wide_ok (n : Nat) (w : World) (h : n ≤ 60) : Calls Try.prog 33 #[.int .i64 (n : Int)] w fun e w' => e = .returned (.bool true) ∧ w = w' := by
  go_enter Try.func33, Try.ntmps33
  go_wp2
  go_ret
  refine ⟨?_, rfl⟩
  show Ending.returned (.bool _) = _
  simp; omega

set_option maxRecDepth 100000 in
set_option maxHeartbeats 1000000 in
theorem bits_write (A : Option Addr) (n c : Nat) (l : List (Nat × Nat)) (w : World) (hn : n ≤ 400) (hl : ∀ f ∈ l, f.1 ≤ 60 ∧ f.2 < 2 ^ f.1) (h : Sl w 2 A n (l.flatMap gF)) :
    Calls Try.prog 23 #[.slice A n c] w fun e w' => ∃ v, e = .returned (.tuple #[v, .int .i64 0]) ∧ Ow w w' 5 1 gB v (pack (fieldBits l)) := by
  have H := hid h; have HF := hid hl; clear h hl
  have HLn := hid (show l.length = n by have := H.out.1; rw [flatMap_len gF 2 (fun _ => rfl)] at this; omega)
  go_enter Try.func23, Try.ntmps23
  go_wp2
  go_loopw [12] (fun i wr => ∃ k : Nat, ∃ v', k ≤ n ∧ i = .int .i64 (k : Int) ∧ PenAt wr w.heap.size v' (fieldBits (l.take k)) ∧ PenCh w.heap.size (w.alloc (.cells #[.slice none 0 0, .int .i64 0] 67)) (.slice none 0 0) wr v') (fun i _ => n - (intOf i).toNat)
  case atStart =>
    refine ⟨0, .slice none 0 0, Nat.zero_le _, rfl, ⟨Blk.new w _ _, own0 _ _ _ _⟩, PenCh.refl _ _ _⟩
  case round =>
    obtain ⟨k, v', hk, rfl, hp, hc⟩ := hrel
    have HP := hid hp; have HC := hid hc; clear hp hc
    by_cases hlt : k < n
    · obtain ⟨ad, f, rfl, hf, hc0, hc1⟩ := (H.out.below HC.out.blw).atF hlt
      obtain ⟨wd, val⟩ := f
      obtain ⟨hw1, hw2⟩ := HF.out _ (List.mem_of_getElem? hf)
      dsimp only at hw1 hw2 hc0 hc1
      have HT := hid (show fieldBits (l.take (k + 1)) = fieldBits (l.take k) ++ bitsOf wd val by rw [take_next hf]; simp [fieldBits])
      have hfl := fieldBits_len (l.take k) (fun f hf => (HF.out f (List.mem_of_mem_take hf)).1)
      rw [List.length_take] at hfl
      have hfl2 : (fieldBits (l.take k)).length ≤ 24000 := by omega
      have HFK := hid hf; clear hf hfl
      generalize fieldBits (l.take k) = bs at *
      have hv63 : val < 9223372036854775808 := Nat.lt_of_lt_of_le hw2 (Nat.le_trans (Nat.pow_le_pow_right (by decide) hw1) (by decide))
      have hz : ((val : Int) / 2 ^ wd) = 0 := by
        rw [show ((val : Int) / 2 ^ wd) = ((val / 2 ^ wd : Nat) : Int) by rw [Int.natCast_ediv, Int.natCast_pow]; rfl, Nat.div_eq_of_lt hw2]; rfl
      have HW2 := hid hw2; clear hw2
      have hb := World.block_lt_of_cell? wr _ hc0
      go_wp2_with fail
      refine (wide_ok wd _ hw1).mono ?_
      rintro e w2 ⟨rfl, rfl⟩
      have HP2 : Hid (PenAt (wr.alloc (.cells #[.int .i64 (wd : Int), .int .i64 (val : Int)] 41)) w.heap.size v' bs) := PenM.step HP.out (bnew (bnil _) _)
      have HC2 := hid (HC.out.step (bnew (bnil _) (.cells #[.int .i64 (wd : Int), .int .i64 (val : Int)] 41)))
      go_wp2_with fail
      refine (pen_put _ w.heap.size v' bs wd val (by omega) hv63 (by omega) HP2.out).mono ?_
      rintro e w3 ⟨rfl, v3, hp3, hc3⟩
      have HP3 := hid hp3; have HC3 := hid (HC2.out.trans hc3); clear hp3 hc3
      go_wp2
      go_roundw
      case rel => exact ⟨k + 1, v3, by omega, by go_num, by rw [HT.out]; exact HP3.out, HC3.out⟩
      case measure => simp [intOf]; omega
    · obtain rfl : k = n := by omega
      obtain ⟨c0, c1, f0, f1⟩ := PenM.cells HP.out
      have E := hid (show l.take k = l from List.take_of_length_le (by rw [HLn.out]; exact Nat.le_refl _))
      go_wp2
      go_ret2
      refine ⟨v', rfl, ?_, HC.out.blw⟩
      have := HP.out.own
      rw [E.out] at this
      exact own_above this HC.out
end Go.Proofs.Ytejpcibcllnheaa
