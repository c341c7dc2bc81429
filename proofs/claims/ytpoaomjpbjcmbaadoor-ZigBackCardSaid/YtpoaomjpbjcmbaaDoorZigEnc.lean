/-
  zig.Size and zig.Encode: their walks.
-/
import Derived.Test.YtpoaomjpbjcmbaaDoorZig
namespace Go.Proofs.YtpoaomjpbjcmbaaDoor
open Go.RowKit
set_option linter.unusedVariables false

theorem Sl.keepB {w w' : World} {sz n : Nat} {A : Option Addr} {xs : List Value} (h : Sl w sz A n xs) (hb : Below w.heap.size w w') : Sl w' sz A n xs := h.below hb
def zsize (n : Int) : Nat := (zcls (zfold n).toNat).2.1 + (zcls (zfold n).toNat).2.2
theorem zcode_size (n : Int) : (zcode n).length = zsize n := by unfold zcode zsize; rw [List.length_append, bitsOf_len, bitsOf_len]
theorem zsize_bd (n : Int) : 1 ≤ zsize n ∧ zsize n ≤ 63 := by
  have h := zcls_bd (zfold n).toNat
  refine ⟨?_, by unfold zsize; omega⟩
  unfold zsize zcls
  split
  · decide
  · split
    · decide
    · split
      · decide
      · split <;> decide
theorem zcls_mono (m n : Nat) (h : m ≤ n) : (zcls m).2.1 + (zcls m).2.2 ≤ (zcls n).2.1 + (zcls n).2.2 := by
  unfold zcls
  repeat' split
  all_goals first
    | omega
    | decide
theorem zsize_mono (x y : Int) (h : (if x < 0 then -x else x) < (if y < 0 then -y else y)) : zsize x ≤ zsize y := by
  unfold zsize
  refine zcls_mono _ _ ?_
  have : zfold x ≤ zfold y := by unfold zfold; split at h <;> split at h <;> (repeat' split) <;> omega
  omega


/-! ### Encode -/
def zcodes (l : List Int) : List Bool := l.flatMap zcode
theorem zcodes_len (l : List Int) : (zcodes l).length ≤ 63 * l.length := by
  induction l with
  | nil => simp [zcodes]
  | cons x l ih =>
    have e : zcodes (x :: l) = zcode x ++ zcodes l := rfl
    have := zcode_len x
    rw [e, List.length_append, List.length_cons]; omega
def ZSmall (n : Int) : Prop := -288230376151711744 ≤ n ∧ n < 288230376151711744
set_option maxRecDepth 100000 in
set_option maxHeartbeats 2000000 in
theorem zig_encode (A : Option Addr) (n c : Nat) (l : List Int) (w : World) (hn : n ≤ 240) (h : Sl w 1 A n (ints l)) (hl : ∀ x ∈ l, ZSmall x) (ht : ZTab w) :
    Calls Tryd.prog 22 #[.slice A n c] w fun e w' => ∃ v, e = .returned (.tuple #[v, .int .i64 0]) ∧ Ow w w' 5 1 gB v (pack (zcodes l)) := by
  have H := hid h; have HL := hid hl; have HT := hid ht; clear h hl ht
  have HLn := hid H.out.leni
  have hwl := HT.out.lt
  go_enter Tryd.func22, Tryd.ntmps22
  go_wp2
  have HP0 : Hid (PenAt (w.alloc (.cells #[.slice none 0 0, .int .i64 0] 66)) w.heap.size (.slice none 0 0) []) := ⟨Blk.new w _ _, own0 _ _ _ _⟩
  go_loopw [12] (fun i wr => ∃ k : Nat, ∃ v', k ≤ n ∧ i = .int .i64 (k : Int) ∧ PenAt wr w.heap.size v' (zcodes (l.take k)) ∧ Below w.heap.size w wr ∧ RowGe w.heap.size v') (fun i _ => n - (intOf i).toNat)
  case atStart => exact ⟨0, _, by omega, rfl, HP0.out, bnew (bnil w) _, fun k hk => by simp [Value.ownBlock] at hk⟩
  case round =>
    obtain ⟨k, v', hk, rfl, hp, hb, hr⟩ := hrel
    have HP := hid hp; have HB := hid hb; have HR := hid hr; clear hp hb hr
    by_cases hlt : k < n
    · obtain ⟨ad, x, rfl, hx, c0⟩ := (H.out.below HB.out).ati hlt
      obtain ⟨x0, x1⟩ := HL.out x (List.mem_of_getElem? hx)
      have HT2 := hid (show zcodes (l.take (k + 1)) = zcodes (l.take k) ++ zcode x by rw [take_next hx]; simp [zcodes])
      have hbl := zcodes_len (l.take k)
      rw [List.length_take] at hbl
      have hbl2 : (zcodes (l.take k)).length ≤ 63 * 240 := by omega
      clear hbl hx
      generalize zcodes (l.take k) = bs at *
      have HTr := hid (HT.out.below HB.out)
      go_wp2_with fail
      refine (small_yes x wr x0 x1).mono ?_
      rintro e w2 ⟨rfl, rfl⟩
      go_wp2_with fail
      refine (zig_put w.heap.size v' bs x wr x0 x1 (by omega) HP.out HTr.out (off0 HT.out (Nat.le_refl _) HR.out)).mono ?_
      rintro e w4 ⟨rfl, v4, hp4, hc4⟩
      have HP4 := hid hp4
      obtain ⟨hb4, hr4⟩ := hc4.blw2 HB.out (Nat.le_refl _) HR.out
      have HB4 := hid hb4; have HR4 := hid hr4
      clear hp4 hc4 hb4 hr4
      go_wp2
      go_roundw
      case rel => exact ⟨k + 1, v4, by omega, by go_num, by rw [HT2.out]; exact HP4.out, HB4.out, HR4.out⟩
      case measure => simp [intOf]; omega
    · obtain rfl : k = n := by omega
      obtain ⟨c0, c1, f0, f1⟩ := PenM.cells HP.out
      have E := hid (show l.take k = l from List.take_of_length_le (by rw [HLn.out]; exact Nat.le_refl _))
      go_wp2_with fail
      refine (pen_bytes w.heap.size v' wr c0).mono ?_
      rintro e w2 ⟨rfl, rfl⟩
      go_wp2
      go_ret2
      refine ⟨v', rfl, ?_, HB.out⟩
      have h := HP.out.own
      rw [E.out] at h
      exact own_ge h HR.out
end Go.Proofs.YtpoaomjpbjcmbaaDoor
