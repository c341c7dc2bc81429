/-
  Fields of raw numbers (FieldsOf), bytes that are the same (sameBytes): walks.
-/
import Derived.Test.YtpoaomjpbjcmbaaDoorBits
namespace Go.Proofs.YtpoaomjpbjcmbaaDoor
open Go.RowKit
set_option linter.unusedVariables false

set_option maxHeartbeats 1000000 in
theorem same_bytes (A B : Option Addr) (n c d : Nat) (l : List UInt8) (w : World) (hn : n ≤ 9223372036854775807) (hA : Sl w 1 A n (byts l)) (hB : Sl w 1 B n (byts l)) :
    Calls Tryd.prog 31 #[.slice A n c, .slice B n d] w fun e w' => e = .returned (.bool true) ∧ Below w.heap.size w w' := by
  have HA := hid hA; have HB := hid hB; clear hA hB
  have hnn : ((n : Int) != (n : Int)) = false := by simp
  go_enter Tryd.func31, Tryd.ntmps31
  go_wp2
  go_loopw [5] (fun i wr => ∃ k : Nat, k ≤ n ∧ i = .int .i64 k ∧ Below w.heap.size w wr) (fun i _ => n - (intOf i).toNat)
  case atStart => exact ⟨0, Nat.zero_le _, rfl, bnil w⟩
  case round =>
    obtain ⟨k, hk, rfl, hb⟩ := hrel
    have HBw := hid hb; clear hb
    by_cases hlt : k < n
    · obtain ⟨a, x, rfl, hx, c0⟩ := (HA.out.below HBw.out).at_ hlt
      obtain ⟨b, y, rfl, hy, c1⟩ := (HB.out.below HBw.out).at_ hlt
      obtain rfl : x = y := by rw [hx] at hy; injection hy
      clear hx hy
      have i1 : (k : Int) < (n : Int) := by omega
      have hne : ((x.toNat : Int) != (x.toNat : Int)) = false := by simp
      go_wp2_with fail
      go_quiet (fail)
      go_wp2
      go_roundw
      case rel => exact ⟨k + 1, by omega, by go_num, below_drewN HBw.out _⟩
      case measure => simp [intOf]; omega
    · go_wp2
      go_ret
      exact ⟨rfl, HBw.out⟩

/-! ### fields of raw numbers -/
def fieldAt (vs : List Int) (i : Nat) (x : Int) : Nat × Nat := (pk x 61, if i < vs.length ∧ 0 < pk x 61 then pk (vs.getD i 0) ((2 : Int) ^ pk x 61) else 0)
def fieldsOf (ws vs : List Int) (n : Nat) : List (Nat × Nat) := (ws.take n).mapIdx fun i x => fieldAt vs i x
def widthsOf (l : List (Nat × Nat)) : List Int := l.map fun f => (f.1 : Int)
theorem fieldsOf_snoc (ws vs : List Int) (k : Nat) (x : Int) (h : ws[k]? = some x) : fieldsOf ws vs (k + 1) = fieldsOf ws vs k ++ [fieldAt vs k x] := by
  unfold fieldsOf
  rw [take_next h, List.mapIdx_append]
  have hl : k < ws.length := (List.getElem?_eq_some_iff.1 h).1
  simp [List.length_take, Nat.min_eq_left (Nat.le_of_lt hl)]
theorem fieldAt_ok (vs : List Int) (i : Nat) (x : Int) : (fieldAt vs i x).1 ≤ 60 ∧ (fieldAt vs i x).2 < 2 ^ (fieldAt vs i x).1 := by
  have h := pk_lt x 61 (by decide)
  refine ⟨by show pk x 61 ≤ 60; omega, ?_⟩
  show (if i < vs.length ∧ 0 < pk x 61 then pk (vs.getD i 0) ((2 : Int) ^ pk x 61) else 0) < 2 ^ pk x 61
  have hp : 0 < 2 ^ pk x 61 := Nat.pow_pos (by decide)
  split
  · have e : ((2 : Int) ^ pk x 61) = ((2 ^ pk x 61 : Nat) : Int) := by rw [Int.natCast_pow]; rfl
    rw [e]
    have := pk_lt (vs.getD i 0) ((2 ^ pk x 61 : Nat) : Int) (by omega)
    omega
  · exact hp
theorem fieldsOf_ok (ws vs : List Int) (n : Nat) : ∀ f ∈ fieldsOf ws vs n, f.1 ≤ 60 ∧ f.2 < 2 ^ f.1 := by
  intro f hf
  obtain ⟨i, hi, rfl⟩ := List.mem_mapIdx.1 hf
  exact fieldAt_ok vs i _
theorem gF_one (x : Nat × Nat) : ∀ u ∈ gF x, u.oneCell' = true := by intro u hu; simp at hu; rcases hu with rfl | rfl <;> rfl
theorem own_ne_own {w : World} {base base' e e' sz sz' : Nat} {v v' : Value} {n n' : Nat} {xs xs' : List Value} (h : w.ownsRow base e sz v n xs) (h' : w.ownsRow base' e' sz' v' n' xs') (hne : e ≠ e') : ∀ k, v.ownBlock = some k → ¬ (v'.ownBlock = some k) := by
  intro k hk hk'
  rcases h'.2 with ⟨rfl, _⟩ | ⟨g, cap, cur, rfl, _, hh, _⟩
  · simp [Value.ownBlock] at hk'
  · obtain rfl : g = k := by simpa [Value.ownBlock] using hk'
    exact own_ne_blk h hh hne hk
/-- one of two rows of different elements has been appended to: the other stays -/
theorem Ow.other {α β : Type} {w0 w w' : World} {e e' sz sz' : Nat} {g : α → List Value} {g' : β → List Value} {v v' : Value} {l : List α} {l' : List β} (h : Ow w0 w e sz g v l) (h' : Ow w0 w e' sz' g' v' l') (hg : w.grownBy w' v'.ownBlock) (hne : e ≠ e') : Ow w0 w' e sz g v l :=
  ⟨own_chg h.own (Chg.of_grown (M := fun k => v'.ownBlock = some k) hg fun _ h => h) (own_ne_own h.own h'.own hne), below_app h'.below h'.own hg h'.below.size⟩

end Go.Proofs.YtpoaomjpbjcmbaaDoor
