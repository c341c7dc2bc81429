/-
  Words for memory that all texts of this seat share: a slice that reads as a list, a block known whole, a change of the world that spares all blocks but some. Plain lemmas; no function of the program is named.
-/
import Derived.Test.YtfdgklfkpofkeaaRows
import Derived.WalkKit
import Derived.WalkSpells
import Derived.Maps.AppendAt
import Derived.Deep.AppendLies
import Derived.Deep.Draws
import Derived.RegionTactic
import Derived.OwnWalk
import Derived.Laws.OwnMore
import Derived.BigQuiet
import Derived.Deep.QuietTactic
import Derived.Deep.RegionHeld3
import Derived.Deep.DeepFit
namespace Go.Proofs.Ytfdgklfkpofkeaa
open Go.RowKit

set_option linter.unusedVariables false
theorem hid {p : Prop} (h : p) : Hid p := h

theorem maxLen_num : maxLen = 9223372036854775807 := rfl

/-! ### lists as cells: each element is laid as a list of cells -/
theorem flatMap_at {α : Type} (g : α → List Value) (k : Nat) (hg : ∀ x, (g x).length = k) : ∀ (l : List α) (i j : Nat) (x : α), l[i]? = some x → j < k → (l.flatMap g)[i * k + j]? = (g x)[j]?
  | [], i, j, x, h, _ => by simp at h
  | y :: l, 0, j, x, h, hj => by
    simp at h; subst h
    rw [List.flatMap_cons, Nat.zero_mul, Nat.zero_add, List.getElem?_append_left (by rw [hg]; exact hj)]
  | y :: l, i + 1, j, x, h, hj => by
    simp at h
    rw [List.flatMap_cons, List.getElem?_append_right (by rw [hg, Nat.add_mul]; omega), hg, show (i + 1) * k + j - k = i * k + j by rw [Nat.add_mul]; omega]
    exact flatMap_at g k hg l i j x h hj
theorem flatMap_len {α : Type} (g : α → List Value) (k : Nat) (hg : ∀ x, (g x).length = k) (l : List α) : (l.flatMap g).length = l.length * k := by
  induction l with
  | nil => simp
  | cons y l ih => rw [List.flatMap_cons, List.length_append, hg, ih, List.length_cons, Nat.add_mul]; omega
theorem flatMap_take {α : Type} (g : α → List Value) (k : Nat) (hg : ∀ x, (g x).length = k) : ∀ (l : List α) (n : Nat), (l.flatMap g).take (n * k) = (l.take n).flatMap g
  | [], n => by simp
  | y :: l, 0 => by simp
  | y :: l, n + 1 => by
    rw [List.take_succ_cons, List.flatMap_cons, List.flatMap_cons, List.take_append, hg, Nat.add_mul, Nat.one_mul, List.take_of_length_le (by rw [hg]; omega), Nat.add_sub_cancel, flatMap_take g k hg l n]
theorem flatMap_drop {α : Type} (g : α → List Value) (k : Nat) (hg : ∀ x, (g x).length = k) : ∀ (l : List α) (n : Nat), (l.flatMap g).drop (n * k) = (l.drop n).flatMap g
  | [], n => by simp
  | y :: l, 0 => by simp
  | y :: l, n + 1 => by
    rw [List.drop_succ_cons, List.flatMap_cons, List.drop_append, hg, Nat.add_mul, Nat.one_mul, List.drop_of_length_le (by rw [hg]; omega), Nat.add_sub_cancel, flatMap_drop g k hg l n, List.nil_append]
abbrev gB : UInt8 → List Value := fun x => [.int .u8 (x.toNat : Int)]
abbrev gI : Int → List Value := fun x => [.int .i64 x]
def byts (l : List UInt8) : List Value := l.flatMap gB
def ints (l : List Int) : List Value := l.flatMap gI
theorem byts_length (l : List UInt8) : (byts l).length = l.length := by rw [byts, flatMap_len gB 1 (fun _ => rfl), Nat.mul_one]
theorem ints_length (l : List Int) : (ints l).length = l.length := by rw [ints, flatMap_len gI 1 (fun _ => rfl), Nat.mul_one]
theorem byts_append (a b : List UInt8) : byts (a ++ b) = byts a ++ byts b := by simp [byts]
theorem ints_append (a b : List Int) : ints (a ++ b) = ints a ++ ints b := by simp [ints]
theorem byts_take (a : List UInt8) (k : Nat) : (byts a).take k = byts (a.take k) := by have := flatMap_take gB 1 (fun _ => rfl) a k; rwa [Nat.mul_one] at this
theorem byts_drop (a : List UInt8) (k : Nat) : (byts a).drop k = byts (a.drop k) := by have := flatMap_drop gB 1 (fun _ => rfl) a k; rwa [Nat.mul_one] at this
theorem ints_take (a : List Int) (k : Nat) : (ints a).take k = ints (a.take k) := by have := flatMap_take gI 1 (fun _ => rfl) a k; rwa [Nat.mul_one] at this
theorem ints_drop (a : List Int) (k : Nat) : (ints a).drop k = ints (a.drop k) := by have := flatMap_drop gI 1 (fun _ => rfl) a k; rwa [Nat.mul_one] at this
theorem flat_one {α : Type} (g : α → List Value) (hg : ∀ x, ∀ u ∈ g x, u.oneCell' = true) (l : List α) : ∀ u ∈ l.flatMap g, u.oneCell' = true := by
  intro u hu
  obtain ⟨x, _, hx⟩ := List.mem_flatMap.1 hu
  exact hg x u hx
theorem gB_one (x : UInt8) : ∀ u ∈ gB x, u.oneCell' = true := by intro u hu; simp at hu; subst hu; rfl
theorem gI_one (x : Int) : ∀ u ∈ gI x, u.oneCell' = true := by intro u hu; simp at hu; subst hu; rfl
theorem byts_one (l : List UInt8) : ∀ u ∈ byts l, u.oneCell' = true := flat_one gB gB_one l
theorem ints_one (l : List Int) : ∀ u ∈ ints l, u.oneCell' = true := flat_one gI gI_one l
theorem byts_at {l : List UInt8} {k : Nat} {x : UInt8} (h : l[k]? = some x) : (byts l)[k]? = some (.int .u8 (x.toNat : Int)) := by
  have := flatMap_at gB 1 (fun _ => rfl) l k 0 x h (by decide); rw [Nat.mul_one] at this; exact this
theorem ints_at {l : List Int} {k : Nat} {x : Int} (h : l[k]? = some x) : (ints l)[k]? = some (.int .i64 x) := by
  have := flatMap_at gI 1 (fun _ => rfl) l k 0 x h (by decide); rw [Nat.mul_one] at this; exact this
theorem byte_lt (x : UInt8) : (x.toNat : Int) < 256 := by have := x.toNat_lt; omega
theorem byte_ge (x : UInt8) : 0 ≤ (x.toNat : Int) := by omega
theorem take_next {α : Type} {l : List α} {k : Nat} {x : α} (h : l[k]? = some x) : l.take (k + 1) = l.take k ++ [x] := by
  rw [List.take_add_one, h]; rfl

/-! ### addresses -/
theorem ad_block (a : Addr) (n : Nat) : (a.add n).block = a.block := by unfold Addr.add; split <;> rfl
theorem ad_ad (a : Addr) (i j : Nat) : (a.add i).add j = a.add (i + j) := by
  unfold Addr.add
  by_cases hi : i = 0 <;> by_cases hj : j = 0 <;> simp [hi, hj, Nat.add_assoc]
theorem ad_at (g i : Nat) : (⟨g, 0, none⟩ : Addr).add i = ⟨g, i, none⟩ := by unfold Addr.add; split <;> simp_all

/-! ### a slice that reads as a list of cells -/
def Sl (w : World) (sz : Nat) (A : Option Addr) (n : Nat) (xs : List Value) : Prop :=
  xs.length = n * sz ∧ (0 < n → ∃ ad, A = some ad ∧ ∀ j u, xs[j]? = some u → w.cell? (ad.add j) = some u)

section
variable {w w' : World} {sz n : Nat} {A : Option Addr} {xs : List Value}
theorem Sl.nil (A : Option Addr) : Sl w sz A 0 [] := ⟨by simp, fun h => absurd h (by omega)⟩
theorem Sl.keepc (h : Sl w sz A n xs) (hk : ∀ p u, w.cell? p = some u → w'.cell? p = some u) : Sl w' sz A n xs :=
  ⟨h.1, fun hn => by obtain ⟨ad, e, hc⟩ := h.2 hn; exact ⟨ad, e, fun j u hu => hk _ _ (hc j u hu)⟩⟩
theorem cell_below {p : Addr} {u : Value} (hb : Below w.heap.size w w') (hp : w.cell? p = some u) : w'.cell? p = some u :=
  (hb.cell (World.block_lt_of_cell? w _ hp)).trans hp
theorem Sl.below (h : Sl w sz A n xs) (hb : Below w.heap.size w w') : Sl w' sz A n xs := h.keepc fun _ _ hp => cell_below hb hp
theorem Sl.at_ {k : Nat} {l : List UInt8} (h : Sl w 1 A n (byts l)) (hk : k < n) : ∃ ad x, A = some ad ∧ l[k]? = some x ∧ w.cell? (ad.add k) = some (.int .u8 (x.toNat : Int)) := by
  obtain ⟨ad, e, hc⟩ := h.2 (by omega)
  have hl : k < l.length := by have := h.1; rw [byts_length] at this; omega
  exact ⟨ad, l[k], e, List.getElem?_eq_getElem hl, hc k _ (byts_at (List.getElem?_eq_getElem hl))⟩
theorem Sl.ati {k : Nat} {l : List Int} (h : Sl w 1 A n (ints l)) (hk : k < n) : ∃ ad x, A = some ad ∧ l[k]? = some x ∧ w.cell? (ad.add k) = some (.int .i64 x) := by
  obtain ⟨ad, e, hc⟩ := h.2 (by omega)
  have hl : k < l.length := by have := h.1; rw [ints_length] at this; omega
  exact ⟨ad, l[k], e, List.getElem?_eq_getElem hl, hc k _ (ints_at (List.getElem?_eq_getElem hl))⟩
theorem Sl.lenb {l : List UInt8} (h : Sl w 1 A n (byts l)) : l.length = n := by have := h.1; rw [byts_length] at this; omega
theorem Sl.leni {l : List Int} (h : Sl w 1 A n (ints l)) : l.length = n := by have := h.1; rw [ints_length] at this; omega
theorem Sl.pre (h : Sl w sz A n xs) {k : Nat} (hk : k ≤ n) : Sl w sz A k (xs.take (k * sz)) := by
  have hm : k * sz ≤ n * sz := Nat.mul_le_mul_right sz hk
  refine ⟨by rw [List.length_take, h.1]; omega, fun h0 => ?_⟩
  obtain ⟨ad, e, hc⟩ := h.2 (by omega)
  refine ⟨ad, e, fun j u hu => hc j u ?_⟩
  rw [List.getElem?_take] at hu
  split at hu
  · exact hu
  · cases hu
theorem Sl.cut (h : Sl w sz A n xs) {k cap : Nat} (hk : k ≤ n) (hc : n ≤ cap) : Sl w sz (if cap = k then A else A.map (·.add (k * sz))) (n - k) (xs.drop (k * sz)) := by
  refine ⟨by rw [List.length_drop, h.1, Nat.sub_mul], fun hn => ?_⟩
  obtain ⟨ad, rfl, hcell⟩ := h.2 (by omega)
  rw [if_neg (by omega)]
  refine ⟨ad.add (k * sz), rfl, fun j u hu => ?_⟩
  rw [ad_ad]
  exact hcell _ u (by rw [← hu, List.getElem?_drop])
theorem Sl.own {base : Nat} {e : TypeId} {c : Nat} (h : w.ownsRow base e sz (.slice A n c) n xs) : Sl w sz A n xs := by
  refine ⟨h.1, fun hn => ?_⟩
  rcases h.2 with ⟨_, h0⟩ | ⟨g, cap, cur, hv, _⟩
  · omega
  · have hA : A = some ⟨g, 0, none⟩ := by injection hv
    subst hA
    exact ⟨_, rfl, h.cells (g := g) rfl⟩
end
theorem Sl.preB {w : World} {A : Option Addr} {n k : Nat} {l : List UInt8} (h : Sl w 1 A n (byts l)) (hk : k ≤ n) : Sl w 1 A k (byts (l.take k)) := by
  have := h.pre hk; rwa [Nat.mul_one, byts_take] at this
theorem Sl.cutB {w : World} {A : Option Addr} {n k cap : Nat} {l : List UInt8} (h : Sl w 1 A n (byts l)) (hk : k ≤ n) (hc : n ≤ cap) : Sl w 1 (if cap = k then A else A.map (·.add k)) (n - k) (byts (l.drop k)) := by
  have := h.cut hk hc; simp only [Nat.mul_one] at this; rwa [byts_drop] at this
theorem ad_pos (ad : Addr) (k : Nat) (h : 0 < k) : (⟨ad.block, ad.off + k, none⟩ : Addr) = ad.add k := by unfold Addr.add; rw [if_neg (by omega)]
theorem Sl.midB {w : World} {ad : Addr} {n lo m : Nat} {l : List UInt8} (h : Sl w 1 (some ad) n (byts l)) (h0 : 0 < lo) (hm : lo + m ≤ n) : Sl w 1 (some ⟨ad.block, ad.off + lo, none⟩) m (byts ((l.drop lo).take m)) := by
  have h1 := h.cutB (k := lo) (cap := n + lo + 1) (by omega) (by omega)
  rw [if_neg (by omega)] at h1
  rw [ad_pos ad lo h0]
  exact h1.preB (by omega)
theorem Sl.fresh (w : World) (cs : Array Value) (e : TypeId) (sz n : Nat) (hs : cs.size = n * sz) : Sl (w.alloc (.cells cs e)) sz (some ⟨w.heap.size, 0, none⟩) n cs.toList :=
  ⟨by simpa using hs, fun _ => ⟨_, rfl, fun j u hu => by rw [ad_at, cell_of_row (w.alloc (.cells cs e)) w.heap.size j cs e (0, 0) (heap_alloc_new w _)]; simpa using hu⟩⟩
theorem own_form {w : World} {base sz n : Nat} {e : TypeId} {v : Value} {xs : List Value} (h : w.ownsRow base e sz v n xs) : ∃ A c, v = .slice A n c ∧ n ≤ c ∧ c ≤ maxLen := by
  rcases h.2 with ⟨rfl, rfl⟩ | ⟨g, cap, cur, rfl, _, _, h1, h2, _⟩
  · exact ⟨_, _, rfl, Nat.le_refl _, by simp [maxLen]⟩
  · exact ⟨_, _, rfl, h1, h2⟩

/-! ### a block that is known whole -/
def Blk (w : World) (g : Nat) (t : TypeId) (cs : Array Value) : Prop := w.heap[g]? = some (.cells cs t (0, 0))
section
variable {w w' : World} {g : Nat} {t : TypeId} {cs : Array Value}
theorem Blk.lt (h : Blk w g t cs) : g < w.heap.size := (Array.getElem?_eq_some_iff.1 h).1
theorem Blk.cell (h : Blk w g t cs) (i : Nat) : w.cell? ⟨g, i, none⟩ = cs[i]? := cell_of_row w g i cs t (0, 0) h
theorem Blk.frozen (h : Blk w g t cs) (i : Nat) : w.frozen? ⟨g, i, none⟩ = false := by
  unfold Blk at h
  simp [World.frozen?, h]
theorem Blk.new (w : World) (t : TypeId) (cs : Array Value) : Blk (w.alloc (.cells cs t)) w.heap.size t cs := heap_alloc_new w _
theorem Blk.alloc (h : Blk w g t cs) (o : Obj) : Blk (w.alloc o) g t cs := (Below.heap_alloc w o g h.lt).trans h
theorem Blk.set_ (h : Blk w g t cs) (i : Nat) (u : Value) : Blk (w.setCell ⟨g, i, none⟩ u) g t (cs.setIfInBounds i u) := by
  unfold Blk at h ⊢
  simp [World.setCell, Array.getElem?_modify, h]
theorem Blk.far (h : Blk w g t cs) {p : Addr} (hp : g ≠ p.block) (u : Value) : Blk (w.setCell p u) g t cs := (Below.heap_setCell w p u g hp).trans h
theorem Blk.below {B : Nat} (h : Blk w g t cs) (hb : Below B w w') (hg : g < B) : Blk w' g t cs := (hb.block g hg).trans h
theorem Blk.below' (h : Blk w g t cs) (hb : Below w.heap.size w w') : Blk w' g t cs := (hb.block g h.lt).trans h
theorem Blk.ne_ {g' : Nat} {t' : TypeId} {cs' : Array Value} (h : Blk w g t cs) (h' : Blk w g' t' cs') (hne : t ≠ t') : g ≠ g' := by
  rintro rfl
  unfold Blk at h h'
  rw [h] at h'
  injection h' with h'
  injection h' with _ ht
  exact hne ht
end

/-! ### only some blocks have changed -/
structure Chg (M : Nat → Prop) (w w' : World) : Prop where
  os : w'.os = w.os
  tape : w'.tape = w.tape
  output : w'.output = w.output
  size : w.heap.size ≤ w'.heap.size
  block : ∀ k, k < w.heap.size → ¬ M k → w'.heap[k]? = w.heap[k]?
section
variable {M M' : Nat → Prop} {a b c w w' : World}
theorem Chg.refl (M : Nat → Prop) (w : World) : Chg M w w := ⟨rfl, rfl, rfl, Nat.le_refl _, fun _ _ _ => rfl⟩
theorem Chg.of_below {B : Nat} (h : Below B a b) (hM : ∀ k, k < a.heap.size → B ≤ k → M k) : Chg M a b :=
  ⟨h.os, h.tape, h.output, h.size, fun k hk hn => h.block k (Nat.lt_of_not_le fun hle => hn (hM k hk hle))⟩
theorem Chg.of_grown {row : Option Nat} (h : a.grownBy b row) (hM : ∀ k, row = some k → M k) : Chg M a b :=
  ⟨h.os, h.tape, h.output, h.size, fun k hk hn => h.block k hk fun e => hn (hM k e.symm)⟩
theorem Chg.trans (h : Chg M a b) (k : Chg M' b c) (hM : ∀ i, i < a.heap.size → M' i → M i) : Chg M a c :=
  ⟨k.os.trans h.os, k.tape.trans h.tape, k.output.trans h.output, Nat.le_trans h.size k.size,
    fun i hi hn => (k.block i (Nat.lt_of_lt_of_le hi h.size) fun h' => hn (hM i hi h')).trans (h.block i hi hn)⟩
theorem Chg.below {B : Nat} (h : Chg M a b) (hM : ∀ k, M k → B ≤ k) (hB : B ≤ a.heap.size) : Below B a b :=
  ⟨h.os, h.tape, h.output, h.size, fun k hk => h.block k (by omega) fun h' => by have := hM k h'; omega⟩
theorem Chg.setCell {p : Addr} (h : Chg M a w) (hp : p.block < a.heap.size → M p.block) (u : Value) : Chg M a (w.setCell p u) :=
  ⟨h.os, h.tape, h.output, by simpa [World.setCell] using h.size, fun k hk hn => (Below.heap_setCell w p u k (by rintro rfl; exact hn (hp hk))).trans (h.block k hk hn)⟩
theorem Chg.alloc (h : Chg M a w) (o : Obj) : Chg M a (w.alloc o) :=
  ⟨h.os, h.tape, h.output, Nat.le_trans h.size (by simp), fun k hk hn => (Below.heap_alloc w o k (Nat.lt_of_lt_of_le hk h.size)).trans (h.block k hk hn)⟩
theorem Chg.drew (h : Chg M a w) : Chg M a w.drew := ⟨h.os, h.tape, h.output, h.size, h.block⟩
theorem Chg.drewN (h : Chg M a w) (n : Nat) : Chg M a (w.drewN n) := ⟨h.os, h.tape, h.output, h.size, h.block⟩
theorem Chg.blk {g : Nat} {t : TypeId} {cs : Array Value} (h : Chg M w w') (hb : Blk w g t cs) (hg : ¬ M g) : Blk w' g t cs := (h.block g hb.lt hg).trans hb
theorem Chg.cell {p : Addr} {u : Value} (h : Chg M w w') (hp : w.cell? p = some u) (hg : ¬ M p.block) : w'.cell? p = some u :=
  (World.cell?_of_block (h.block p.block (World.block_lt_of_cell? w _ hp) hg)).trans hp
end
theorem below_drewN {B : Nat} {a w : World} (h : Below B a w) (n : Nat) : Below B a (w.drewN n) := ⟨h.os, h.tape, h.output, h.size, h.block⟩

/-- one step more -/
theorem bgo {w a b : World} (h : Below w.heap.size w a) (k : Below a.heap.size a b) : Below w.heap.size w b := h.trans (k.mono h.size)
theorem bnew {w a : World} (h : Below w.heap.size w a) (o : Obj) : Below w.heap.size w (a.alloc o) := h.alloc h.size o
theorem bnil (w : World) : Below w.heap.size w w := Below.refl _ _

/-! ### append onto a row of the call's own, whatever the source's address -/
section
variable {P : Program} (w : World)
theorem run_append_nil0 (base : Nat) (t ty e : TypeId) (i : TypeInfo) (size : Nat) (ht : P.underlying t = some (.slice e)) (hi : P.info? e = some i)
    (v : Value) (n : Nat) (xs : List Value) (hown : w.ownsRow base e size v n xs) (c : Nat) : (Builtin.append_ #[t, t] ty #[v, .slice none 0 c]).run P w = .ok v w := by
  rcases hown.2 with ⟨rfl, rfl⟩ | ⟨g, cap, cur, rfl, _, _, hnc, _⟩
  · simp [Builtin.append_, run_underlying ht, sizeOf, typeInfo, hi, Builtin.lenOf, Builtin.firstCells]
  · simp [Builtin.append_, run_underlying ht, sizeOf, typeInfo, hi, Builtin.lenOf, Builtin.firstCells, hnc, storeCells]
theorem run_append_sl (base : Nat) (t ty e : TypeId) (i : TypeInfo) (z : Value) (size bytes : Nat) (ht : P.underlying t = some (.slice e)) (hi : P.info? e = some i) (hz : i.zero = some z)
    (hsize : i.size = size) (hby : i.bytes = bytes) (hzs : z.cells.size = size) (hsz : 0 < size)
    (v : Value) (n : Nat) (xs : List Value) (hown : w.ownsRow base e size v n xs)
    (A : Option Addr) (m c : Nat) (news : List Value) (hr : Sl w size A m news) (h1 : ∀ u ∈ news, u.oneCell' = true)
    (h63 : n + m ≤ maxLen) (hbytes : (n + m) * bytes ≤ 140737488355328) (hbase : base ≤ w.heap.size) :
    ∃ v' w', (Builtin.append_ #[t, t] ty #[v, .slice A m c]).run P w = .ok v' w' ∧ w'.ownsRow base e size v' (n + m) (xs ++ news) ∧ w.grownBy w' v.ownBlock ∧
      (v'.ownBlock = v.ownBlock ∨ v'.ownBlock = some w.heap.size) := by
  by_cases hm : m = 0
  · subst hm
    obtain rfl : news = [] := List.eq_nil_of_length_eq_zero (by simpa using hr.1)
    rcases A with _ | ad
    · exact ⟨v, w, run_append_nil0 w base t ty e i size ht hi v n xs hown c, by simpa using hown, World.grownBy.refl w _, .inl rfl⟩
    · obtain ⟨v', w', hrun, h2, h3, _, h5⟩ := run_append_own_at (P := P) w base t ty e i z size bytes ht hi hz hsize hby hzs hsz v n xs hown ad 0 c [] (by simp) (by simp) h1 h63 hbytes hbase
      exact ⟨v', w', hrun, h2, h3, h5⟩
  · obtain ⟨ad, rfl, hc⟩ := hr.2 (by omega)
    obtain ⟨v', w', hrun, h2, h3, _, h5⟩ := run_append_own_at (P := P) w base t ty e i z size bytes ht hi hz hsize hby hzs hsz v n xs hown ad m c news hr.1 hc h1 h63 hbytes hbase
    exact ⟨v', w', hrun, h2, h3, h5⟩
theorem wp_append_sl {o : Oper} {a : Act} {K : Act → World → Prop} {Q : Exit → Act → World → Prop} (s x : Operand) (t : TypeId)
    (ho : o.op = .call { callee := .builtin .append, args := #[s, x], argTypes := #[t, t] })
    (base : Nat) (e : TypeId) (i : TypeInfo) (z : Value) (size bytes : Nat) (ht : P.underlying t = some (.slice e)) (hi : P.info? e = some i) (hz : i.zero = some z)
    (hsize : i.size = size) (hby : i.bytes = bytes) (hzs : z.cells.size = size) (hsz : 0 < size)
    (v : Value) (n : Nat) (xs : List Value) (hs : a.eval s = v) (hown : w.ownsRow base e size v n xs)
    (A : Option Addr) (m c : Nat) (news : List Value) (hx : a.eval x = .slice A m c) (hr : Sl w size A m news) (h1 : ∀ u ∈ news, u.oneCell' = true)
    (h63 : n + m ≤ maxLen) (hbytes : (n + m) * bytes ≤ 140737488355328) (hbase : base ≤ w.heap.size)
    (h : ∀ v' w', w'.ownsRow base e size v' (n + m) (xs ++ news) → w.grownBy w' v.ownBlock → (v'.ownBlock = v.ownBlock ∨ v'.ownBlock = some w.heap.size) → K (a.put o.dst v') w') : o.wp P a w K Q := by
  obtain ⟨v', w', hrun, h2, h3, h4⟩ := run_append_sl (P := P) w base t o.type e i z size bytes ht hi hz hsize hby hzs hsz v n xs hown A m c news hr h1 h63 hbytes hbase
  unfold Oper.wp execOp
  simp only [ho, resolve, invoke, builtin, Sem.run_bind, Sem.run_pure, Result.andThen_ok, List.map_toArray, List.map_cons, List.map_nil, hs, hx, hrun]
  exact h v' w' h2 h3 h4
end
/-- an element type's row of the table -/
structure Elm (P : Program) (t e : TypeId) (sz bytes : Nat) : Prop where
  ht : P.underlying t = some (.slice e)
  ex : ∃ i z, P.info? e = some i ∧ i.zero = some z ∧ i.size = sz ∧ i.bytes = bytes ∧ z.cells.size = sz
  pos : 0 < sz
theorem elm_of {P : Program} {t e : TypeId} {z : Value} {sz bytes : Nat} (ht : P.underlying t = some (.slice e)) (hi : (P.info? e).map (fun i => (i.zero, i.size, i.bytes)) = some (some z, sz, bytes)) (hz : z.cells.size = sz) (hp : 0 < sz) : Elm P t e sz bytes := by
  obtain ⟨i0, hi0, hz0, hz1, hz2⟩ := info_parts hi
  exact ⟨ht, ⟨i0, z, hi0, hz0, hz1, hz2, hz⟩, hp⟩
theorem wpList_app {P : Program} {w : World} {t e : TypeId} {sz bytes : Nat} (E : Elm P t e sz bytes) {ops : Array Oper} {rest : List Oper} {o : Oper} {a : Act} {Q : Exit → Act → World → Prop} (hw : Region.wanted o (yielded ops a.tmps) = true) (s x : Operand)
    (ho : o.op = .call { callee := .builtin .append, args := #[s, x], argTypes := #[t, t] })
    {base : Nat} (v : Value) {n : Nat} {xs : List Value} (hs : a.eval s = v) (hown : w.ownsRow base e sz v n xs)
    {A : Option Addr} {m c : Nat} {news : List Value} (hx : a.eval x = .slice A m c) (hr : Sl w sz A m news) (h1 : ∀ u ∈ news, u.oneCell' = true)
    (h63 : n + m ≤ maxLen) (hbytes : (n + m) * bytes ≤ 140737488355328) (hbase : base ≤ w.heap.size)
    (h : ∀ v' w', w'.ownsRow base e sz v' (n + m) (xs ++ news) → w.grownBy w' v.ownBlock → (v'.ownBlock = v.ownBlock ∨ v'.ownBlock = some w.heap.size) → wpList P ops Q rest (a.put o.dst v') w') : wpList P ops Q (o :: rest) a w := by
  obtain ⟨i, z, hi, hz, hz1, hz2, hz3⟩ := E.ex
  exact BigFrame.wpList_want hw fun _ hK => wp_append_sl w s x t ho base e i z sz bytes E.ht hi hz hz1 hz2 hz3 E.pos v n xs hs hown A m c news hx hr h1 h63 hbytes hbase fun v' w' h2 h3 h4 => hK _ _ (h v' w' h2 h3 h4)
theorem wpList_app0 {P : Program} {w : World} {t e : TypeId} {sz bytes : Nat} (E : Elm P t e sz bytes) {ops : Array Oper} {rest : List Oper} {o : Oper} {a : Act} {Q : Exit → Act → World → Prop} (hw : Region.wanted o (yielded ops a.tmps) = true) (s x : Operand)
    (ho : o.op = .call { callee := .builtin .append, args := #[s, x], argTypes := #[t, t] })
    (hs : a.eval s = .slice none 0 0)
    {A : Option Addr} {m c : Nat} {news : List Value} (hx : a.eval x = .slice A m c) (hr : Sl w sz A m news) (h1 : ∀ u ∈ news, u.oneCell' = true)
    (h63 : m ≤ maxLen) (hbytes : m * bytes ≤ 140737488355328)
    (h : ∀ v' w', w'.ownsRow w.heap.size e sz v' m news → Below w.heap.size w w' → wpList P ops Q rest (a.put o.dst v') w') : wpList P ops Q (o :: rest) a w :=
  wpList_app E hw s x ho (base := w.heap.size) (.slice none 0 0) hs (World.ownsRow_nil _ _ _ _) hx hr h1 (by omega) (by rw [Nat.zero_add]; exact hbytes) (Nat.le_refl _)
    fun v' w' h2 h3 _ => h v' w' (by simpa using h2) ((Below.refl _ _).grown h3 (Nat.le_refl _) (by simp [Value.ownBlock]))
theorem elmB : Elm Try.prog 106 5 1 1 := elm_of (z := .int .u8 0) Try.underlying106 (by kernel_rfl) rfl (by decide)
theorem elmI : Elm Try.prog 37 3 1 8 := elm_of (z := .int .i64 0) Try.underlying37 (by kernel_rfl) rfl (by decide)
theorem own0 (w : World) (b : Nat) (e : TypeId) (sz : Nat) : w.ownsRow b e sz (.slice none 0 0) 0 [] := World.ownsRow_nil _ _ _ _

theorem own_lower {w : World} {base base' sz n : Nat} {e : TypeId} {v : Value} {xs : List Value} (h : w.ownsRow base e sz v n xs) (hb : base' ≤ base) : w.ownsRow base' e sz v n xs := by
  refine ⟨h.1, ?_⟩
  rcases h.2 with h0 | ⟨g, cap, cur, hv, hg, r⟩
  · exact .inl h0
  · exact .inr ⟨g, cap, cur, hv, by omega, r⟩
/-- behind an append: what was there below B has not changed -/
theorem below_app {B : Nat} {a w w' : World} {v : Value} {e : TypeId} {size n : Nat} {xs : List Value} (h : Below B a w) (hown : w.ownsRow B e size v n xs) (hg : w.grownBy w' v.ownBlock) (hB : B ≤ w.heap.size) : Below B a w' :=
  h.grown hg hB fun k hk => (hown.lt k hk).1
theorem own_below {w w' : World} {base sz n : Nat} {e : TypeId} {v : Value} {xs : List Value} (h : w.ownsRow base e sz v n xs) (hb : Below w.heap.size w w') : w'.ownsRow base e sz v n xs := by
  refine ⟨h.1, ?_⟩
  rcases h.2 with h0 | ⟨g, cap, cur, hv, hg, hh, r⟩
  · exact .inl h0
  · exact .inr ⟨g, cap, cur, hv, hg, (hb.block g (Array.getElem?_eq_some_iff.1 hh).1).trans hh, r⟩

/-! ### a list that the call has made since the world w0, in a row of its own; nothing that was there at w0 has changed -/
structure Ow {α : Type} (w0 w : World) (e : TypeId) (sz : Nat) (g : α → List Value) (v : Value) (l : List α) : Prop where
  own : w.ownsRow w0.heap.size e sz v l.length (l.flatMap g)
  below : Below w0.heap.size w0 w
section
variable {α : Type} {w0 w w' : World} {e : TypeId} {sz : Nat} {g : α → List Value} {v : Value} {l : List α}
theorem Ow.step (h : Ow w0 w e sz g v l) (hb : Below w.heap.size w w') : Ow w0 w' e sz g v l := ⟨own_below h.own hb, bgo h.below hb⟩
theorem Ow.alloc (h : Ow w0 w e sz g v l) (o : Obj) : Ow w0 (w.alloc o) e sz g v l := h.step (bnew (bnil w) o)
theorem Ow.drewN (h : Ow w0 w e sz g v l) (n : Nat) : Ow w0 (w.drewN n) e sz g v l := h.step (below_drewN (bnil w) n)
theorem Ow.drew (h : Ow w0 w e sz g v l) : Ow w0 w.drew e sz g v l := h.step (bnil w).drew
theorem Ow.nil (w : World) (e : TypeId) (sz : Nat) (g : α → List Value) : Ow w w e sz g (.slice none 0 0) [] := ⟨World.ownsRow_nil _ _ _ _, bnil w⟩
theorem Ow.nil' (hb : Below w0.heap.size w0 w) (e : TypeId) (sz : Nat) (g : α → List Value) : Ow w0 w e sz g (.slice none 0 0) [] := ⟨World.ownsRow_nil _ _ _ _, hb⟩
theorem Ow.form (h : Ow w0 w e sz g v l) : ∃ A c, v = .slice A l.length c ∧ l.length ≤ c ∧ c ≤ maxLen := own_form h.own
theorem Ow.sl {A : Option Addr} {n c : Nat} (h : Ow w0 w e sz g (.slice A n c) l) : Sl w sz A n (l.flatMap g) := by
  have hn : n = l.length := by obtain ⟨A', c', h1, _⟩ := h.form; injection h1
  subst hn
  exact Sl.own h.own
theorem Ow.from {w00 : World} (h : Ow w0 w e sz g v l) (hb : Below w00.heap.size w00 w0) : Ow w00 w e sz g v l := ⟨own_lower h.own hb.size, bgo hb h.below⟩
end
theorem wpList_appG {P : Program} {w : World} {t e : TypeId} {sz bytes : Nat} (E : Elm P t e sz bytes) {α : Type} {g : α → List Value} (hg : ∀ x, ∀ u ∈ g x, u.oneCell' = true) {ops : Array Oper} {rest : List Oper} {o : Oper} {a : Act} {Q : Exit → Act → World → Prop} (hw : Region.wanted o (yielded ops a.tmps) = true) (s x : Operand)
    (ho : o.op = .call { callee := .builtin .append, args := #[s, x], argTypes := #[t, t] })
    {w0 : World} (v : Value) (l : List α) (hs : a.eval s = v) (hown : Ow w0 w e sz g v l)
    {A : Option Addr} {n c : Nat} (m : List α) (hx : a.eval x = .slice A n c) (hr : Sl w sz A n (m.flatMap g)) (hn : m.length = n)
    (h63 : l.length + m.length ≤ maxLen) (hbytes : (l.length + m.length) * bytes ≤ 140737488355328)
    (h : ∀ v' w', Ow w0 w' e sz g v' (l ++ m) → w.grownBy w' v.ownBlock → (v'.ownBlock = v.ownBlock ∨ v'.ownBlock = some w.heap.size) → wpList P ops Q rest (a.put o.dst v') w') : wpList P ops Q (o :: rest) a w := by
  subst hn
  exact wpList_app E hw s x ho v hs hown.own hx hr (flat_one g hg m) h63 hbytes hown.below.size fun v' w' h1 h2 h3 =>
    h v' w' ⟨by rw [List.length_append, List.flatMap_append]; exact h1, below_app hown.below hown.own h2 hown.below.size⟩ h2 h3
theorem grown_nil {w w' : World} (h : w.grownBy w' (Value.slice none 0 0).ownBlock) : Below w.heap.size w w' := (bnil w).grown h (Nat.le_refl _) (by simp [Value.ownBlock])
theorem wpList_appY {P : Program} {w : World} {t e : TypeId} {sz bytes : Nat} (E : Elm P t e sz bytes) {α : Type} {g : α → List Value} (hg : ∀ x, ∀ u ∈ g x, u.oneCell' = true) {ops : Array Oper} {rest : List Oper} {o : Oper} {a : Act} {Q : Exit → Act → World → Prop} (hw : Region.wanted o (yielded ops a.tmps) = true) (s x : Operand)
    (ho : o.op = .call { callee := .builtin .append, args := #[s, x], argTypes := #[t, t] })
    {w0 : World} (v : Value) (l : List α) (hs : a.eval s = v) (hown : Ow w0 w e sz g v l)
    {A : Option Addr} {n c : Nat} (m y : List α) (hy : Hid (l ++ m = y)) (hx : a.eval x = .slice A n c) (hr : Sl w sz A n (m.flatMap g)) (hn : m.length = n)
    (h63 : y.length ≤ maxLen) (hbytes : y.length * bytes ≤ 140737488355328)
    (h : ∀ A' c' w', y.length ≤ c' → c' ≤ maxLen → Hid (Ow w0 w' e sz g (.slice A' y.length c') y) → Hid (w.grownBy w' v.ownBlock) → Hid ((Value.slice A' y.length c').ownBlock = v.ownBlock ∨ (Value.slice A' y.length c').ownBlock = some w.heap.size) → wpList P ops Q rest (a.put o.dst (.slice A' y.length c')) w') : wpList P ops Q (o :: rest) a w := by
  have hy' : l ++ m = y := hy
  subst hy'
  rw [List.length_append] at h63 hbytes
  refine wpList_appG E hg hw s x ho v l hs hown m hx hr hn h63 hbytes fun v' w' h1 h2 h3 => ?_
  obtain ⟨A', c', rfl, hc1, hc2⟩ := h1.form
  exact h A' c' w' hc1 hc2 h1 h2 h3
theorem bgo' {w a b : World} (k : Below a.heap.size a b) (h : Below w.heap.size w a) : Below w.heap.size w b := bgo h k
/-- a row of the call's own with at least one element, at one cell each: its block, and a store into it -/
theorem Ow.row {α : Type} {w0 w : World} {e : TypeId} {g : α → List Value} {A : Option Addr} {n c : Nat} {l : List α} (h : Ow w0 w e 1 g (.slice A n c) l) (hl : 0 < l.length) :
    ∃ b cur, A = some ⟨b, 0, none⟩ ∧ n = l.length ∧ w0.heap.size ≤ b ∧ Blk w b e cur ∧ cur.size = c ∧ n ≤ c ∧ cur.toList.take n = l.flatMap g := by
  rcases h.own.2 with ⟨_, h0⟩ | ⟨b, cap, cur, hv, hb, hh, h1, _, h3, h4⟩
  · omega
  · injection hv with e1 e2 e3
    subst e1; subst e2; subst e3
    exact ⟨b, cur, rfl, rfl, hb, hh, by rw [h3, Nat.mul_one], h1, by rw [← h4, Nat.mul_one]⟩
theorem flatMap_set {α : Type} (f : α → Value) (l : List α) (i : Nat) (x : α) : (l.set i x).flatMap (fun x => [f x]) = (l.flatMap (fun x => [f x])).set i (f x) := by
  induction l generalizing i with
  | nil => simp
  | cons y l ih => cases i <;> simp [ih]
theorem Ow.set {α : Type} {w0 w : World} {e : TypeId} {f : α → Value} {b n c i : Nat} {l : List α} (h : Ow w0 w e 1 (fun x => [f x]) (.slice (some ⟨b, 0, none⟩) n c) l) (hi : i < l.length) (x : α) :
    Ow w0 (w.setCell ⟨b, i, none⟩ (f x)) e 1 (fun x => [f x]) (.slice (some ⟨b, 0, none⟩) n c) (l.set i x) := by
  obtain ⟨b', cur, hA, rfl, hb, hk, hs, hc, ht⟩ := h.row (by omega)
  injection hA with hA; injection hA with hA; subst hA
  obtain ⟨A', c', hv, hc1, hc2⟩ := h.form
  injection hv with _ _ hv; subst hv
  refine ⟨⟨by simp only [List.length_set, Nat.mul_one]; rw [flatMap_len _ 1 (fun _ => rfl), List.length_set, Nat.mul_one], .inr ⟨b, c, cur.setIfInBounds i (f x), by rw [List.length_set], hb, hk.set_ i _, by rw [List.length_set]; exact hc, hc2, by simp [hs], ?_⟩⟩, h.below.setCell hb _⟩
  rw [flatMap_set, ← ht, List.length_set, Nat.mul_one, Array.toList_setIfInBounds, List.take_set]
theorem Ow.cellB {w0 w : World} {e : TypeId} {b n c i : Nat} {l : List UInt8} {x : UInt8} (h : Ow w0 w e 1 gB (.slice (some ⟨b, 0, none⟩) n c) l) (hi : l[i]? = some x) : w.cell? ⟨b, i, none⟩ = some (.int .u8 (x.toNat : Int)) ∧ w.frozen? ⟨b, i, none⟩ = false := by
  have hl : i < l.length := (List.getElem?_eq_some_iff.1 hi).1
  obtain ⟨b', cur, hA, rfl, hb, hk, hs, hc, ht⟩ := h.row (by omega)
  injection hA with hA; injection hA with hA; subst hA
  refine ⟨?_, hk.frozen i⟩
  have hb : (byts l)[i]? = some (.int .u8 (x.toNat : Int)) := byts_at hi
  rw [hk.cell i, ← Array.getElem?_toList]
  rw [byts, ← ht, List.getElem?_take, if_pos hl] at hb
  exact hb
/-- what a region that draws its order is told: a frame and the cells that it loads -/
theorem sees1 {W w' : World} {p : Addr} {u : Value} (h : Below W.heap.size W w') (hp : W.cell? p = some u) : Below W.heap.size W w' ∧ w'.cell? p = some u := ⟨h, cell_below h hp⟩
theorem sees2 {W w' : World} {p q : Addr} {u v : Value} (h : Below W.heap.size W w') (hp : W.cell? p = some u) (hq : W.cell? q = some v) : Below W.heap.size W w' ∧ w'.cell? p = some u ∧ w'.cell? q = some v := ⟨h, cell_below h hp, cell_below h hq⟩
theorem own_row {α : Type} {w : World} {base : Nat} {e : TypeId} {g : α → List Value} {v : Value} {n : Nat} {l : List α} (h : w.ownsRow base e 1 v n (l.flatMap g)) (hl : 0 < n) :
    ∃ b c cur, v = .slice (some ⟨b, 0, none⟩) n c ∧ base ≤ b ∧ Blk w b e cur ∧ cur.size = c ∧ n ≤ c ∧ c ≤ maxLen ∧ cur.toList.take n = l.flatMap g := by
  rcases h.2 with ⟨_, h0⟩ | ⟨b, cap, cur, hv, hb, hh, h1, h2, h3, h4⟩
  · omega
  · exact ⟨b, cap, cur, hv, hb, hh, by rw [h3, Nat.mul_one], h1, h2, by rw [← h4, Nat.mul_one]⟩
theorem own_set {α : Type} {w : World} {base : Nat} {e : TypeId} {f : α → Value} {b n c i : Nat} {l : List α} (h : w.ownsRow base e 1 (.slice (some ⟨b, 0, none⟩) n c) n (l.flatMap (fun x => [f x]))) (hi : i < l.length) (x : α) :
    (w.setCell ⟨b, i, none⟩ (f x)).ownsRow base e 1 (.slice (some ⟨b, 0, none⟩) n c) n ((l.set i x).flatMap (fun x => [f x])) := by
  have hln : l.length = n := by have := h.1; rw [flatMap_len _ 1 (fun _ => rfl)] at this; omega
  obtain ⟨b', c', cur, hA, hb, hk, hs, hc, hm, ht⟩ := own_row h (by omega)
  injection hA with hA _ hA2; injection hA with hA; injection hA with hA; subst hA; subst hA2
  refine ⟨by rw [flatMap_len _ 1 (fun _ => rfl), List.length_set, hln], .inr ⟨b, c, cur.setIfInBounds i (f x), rfl, hb, hk.set_ i _, hc, hm, by simp [hs], ?_⟩⟩
  rw [flatMap_set, ← ht, Nat.mul_one, Array.toList_setIfInBounds, List.take_set]
theorem own_cellB {w : World} {base : Nat} {e : TypeId} {b n c i : Nat} {l : List UInt8} {x : UInt8} (h : w.ownsRow base e 1 (.slice (some ⟨b, 0, none⟩) n c) n (l.flatMap gB)) (hi : l[i]? = some x) : w.cell? ⟨b, i, none⟩ = some (.int .u8 (x.toNat : Int)) ∧ w.frozen? ⟨b, i, none⟩ = false := by
  have hl : i < l.length := (List.getElem?_eq_some_iff.1 hi).1
  have hln : l.length = n := by have := h.1; rw [flatMap_len _ 1 (fun _ => rfl)] at this; omega
  obtain ⟨b', c', cur, hA, hb, hk, hs, hc, hm, ht⟩ := own_row h (by omega)
  injection hA with hA _ hA2; injection hA with hA; injection hA with hA; subst hA; subst hA2
  refine ⟨?_, hk.frozen i⟩
  have hb : (byts l)[i]? = some (.int .u8 (x.toNat : Int)) := byts_at hi
  rw [hk.cell i, ← Array.getElem?_toList]
  rw [byts, ← ht, List.getElem?_take, if_pos (by omega)] at hb
  exact hb
theorem own_chg {w w' : World} {base e sz : Nat} {v : Value} {n : Nat} {xs : List Value} {M : Nat → Prop} (h : w.ownsRow base e sz v n xs) (hc : Chg M w w') (hM : ∀ k, v.ownBlock = some k → ¬ M k) : w'.ownsRow base e sz v n xs := by
  refine ⟨h.1, ?_⟩
  rcases h.2 with h0 | ⟨g, cap, cur, hv, hg, hh, r⟩
  · exact .inl h0
  · exact .inr ⟨g, cap, cur, hv, hg, (hc.block g (Array.getElem?_eq_some_iff.1 hh).1 (hM g (by rw [hv]; rfl))).trans hh, r⟩
theorem own_ne_blk {w : World} {base e sz : Nat} {v : Value} {n g : Nat} {t : TypeId} {xs : List Value} {cs : Array Value} (h : w.ownsRow base e sz v n xs) (hg : Blk w g t cs) (hne : e ≠ t) : v.ownBlock ≠ some g := by
  rcases h.2 with ⟨rfl, _⟩ | ⟨g', cap, cur, rfl, _, hh, _⟩
  · simp [Value.ownBlock]
  · intro he
    obtain rfl : g' = g := by simpa [Value.ownBlock] using he
    exact Blk.ne_ (t := e) hh hg hne rfl
theorem wpList_app1 {P : Program} {w : World} {t e : TypeId} {bytes : Nat} (E : Elm P t e 1 bytes) {α : Type} {g : α → List Value} (hg1 : ∀ x, (g x).length = 1) (hg : ∀ x, ∀ u ∈ g x, u.oneCell' = true) {ops : Array Oper} {rest : List Oper} {o : Oper} {a : Act} {Q : Exit → Act → World → Prop} (hw : Region.wanted o (yielded ops a.tmps) = true) (s x : Operand)
    (ho : o.op = .call { callee := .builtin .append, args := #[s, x], argTypes := #[t, t] })
    {base : Nat} (v : Value) (l : List α) (hs : a.eval s = v) (hown : w.ownsRow base e 1 v l.length (l.flatMap g))
    {A : Option Addr} {n c : Nat} (m y : List α) (hy : Hid (l ++ m = y)) (hx : a.eval x = .slice A n c) (hr : Sl w 1 A n (m.flatMap g)) (hn : m.length = n) (hm : 0 < n)
    (h63 : y.length ≤ maxLen) (hbytes : y.length * bytes ≤ 140737488355328) (hbase : base ≤ w.heap.size)
    (h : ∀ b c' w', y.length ≤ c' → c' ≤ maxLen → Hid (w'.ownsRow base e 1 (.slice (some ⟨b, 0, none⟩) y.length c') y.length (y.flatMap g)) → Hid (w.grownBy w' v.ownBlock) → Hid (v.ownBlock = some b ∨ b = w.heap.size) → wpList P ops Q rest (a.put o.dst (.slice (some ⟨b, 0, none⟩) y.length c')) w') : wpList P ops Q (o :: rest) a w := by
  have hy' : l ++ m = y := hy
  subst hy'
  rw [List.length_append] at h63 hbytes
  subst hn
  refine wpList_app E hw s x ho v hs hown hx hr (flat_one g hg m) h63 hbytes hbase fun v' w' h1 h2 h3 => ?_
  rw [← List.flatMap_append, ← List.length_append] at h1
  obtain ⟨b, c', cur, rfl, hb, hk, hs, hc, hmx, ht⟩ := own_row h1 (by rw [List.length_append]; omega)
  refine h b c' w' hc hmx h1 h2 ?_
  rcases h3 with h3 | h3
  · exact .inl h3.symm
  · exact .inr (by simpa [Value.ownBlock] using h3)
theorem cell_next {w : World} {ad : Addr} {i j : Nat} {u : Value} (hj : 0 < j) (h : w.cell? (ad.add (i + j)) = some u) : w.cell? ⟨(ad.add i).block, (ad.add i).off + j, none⟩ = some u := by
  rw [ad_pos (ad.add i) j hj, ad_ad]; exact h
theorem Sl.fresh1 (w : World) (o : Obj) (cs : Array Value) (e : TypeId) (sz n : Nat) (hs : cs.size = n * sz) : Sl ((w.alloc o).alloc (.cells cs e)) sz (some ⟨w.heap.size + 1, 0, none⟩) n cs.toList := by
  have := Sl.fresh (w.alloc o) cs e sz n hs
  rwa [show (w.alloc o).heap.size = w.heap.size + 1 by simp] at this
theorem wp_appY {P : Program} {w : World} {t e : TypeId} {sz bytes : Nat} (E : Elm P t e sz bytes) {α : Type} {g : α → List Value} (hg : ∀ x, ∀ u ∈ g x, u.oneCell' = true) {o : Oper} {a : Act} {K : Act → World → Prop} {Q : Exit → Act → World → Prop} (s x : Operand)
    (ho : o.op = .call { callee := .builtin .append, args := #[s, x], argTypes := #[t, t] })
    {w0 : World} (v : Value) (l : List α) (hs : a.eval s = v) (hown : Ow w0 w e sz g v l)
    {A : Option Addr} {n c : Nat} (m y : List α) (hy : Hid (l ++ m = y)) (hx : a.eval x = .slice A n c) (hr : Sl w sz A n (m.flatMap g)) (hn : m.length = n)
    (h63 : y.length ≤ maxLen) (hbytes : y.length * bytes ≤ 140737488355328)
    (h : ∀ A' c' w', y.length ≤ c' → c' ≤ maxLen → Hid (Ow w0 w' e sz g (.slice A' y.length c') y) → Hid (w.grownBy w' v.ownBlock) → K (a.put o.dst (.slice A' y.length c')) w') : o.wp P a w K Q := by
  have hy' : l ++ m = y := hy
  subst hy'
  subst hn
  rw [List.length_append] at h63 hbytes
  obtain ⟨i, z, hi, hz, hz1, hz2, hz3⟩ := E.ex
  refine wp_append_sl w s x t ho w0.heap.size e i z sz bytes E.ht hi hz hz1 hz2 hz3 E.pos v l.length (l.flatMap g) hs hown.own A m.length c (m.flatMap g) hx hr (flat_one g hg m) h63 hbytes hown.below.size fun v' w' h1 h2 _ => ?_
  have h4 : Ow w0 w' e sz g v' (l ++ m) := ⟨by rw [List.length_append, List.flatMap_append]; exact h1, below_app hown.below hown.own h2 hown.below.size⟩
  obtain ⟨A', c', rfl, hc1, hc2⟩ := h4.form
  exact h A' c' w' hc1 hc2 h4 h2
/-- the same, where the order of the region's operations is drawn -/
theorem step_appY {P : Program} {w : World} {t e : TypeId} {sz bytes : Nat} (E : Elm P t e sz bytes) {α : Type} {g : α → List Value} (hg : ∀ x, ∀ u ∈ g x, u.oneCell' = true) {ops : Array Oper} {o : Oper} {a : Act} {K : Act → World → Prop} {Q : Exit → Act → World → Prop} {D : Prop} (hw : Region.wanted o (yielded ops a.tmps) = true) (s x : Operand)
    (ho : o.op = .call { callee := .builtin .append, args := #[s, x], argTypes := #[t, t] })
    {w0 : World} (v : Value) (l : List α) (hs : a.eval s = v) (hown : Ow w0 w e sz g v l)
    {A : Option Addr} {n c : Nat} (m y : List α) (hy : Hid (l ++ m = y)) (hx : a.eval x = .slice A n c) (hr : Sl w sz A n (m.flatMap g)) (hn : m.length = n)
    (h63 : y.length ≤ maxLen) (hbytes : y.length * bytes ≤ 140737488355328)
    (h : ∀ A' c' w', y.length ≤ c' → c' ≤ maxLen → Hid (Ow w0 w' e sz g (.slice A' y.length c') y) → Hid (w.grownBy w' v.ownBlock) → K (a.put o.dst (.slice A' y.length c')) w') :
    if Region.wanted o (yielded ops a.tmps) = true then Oper.wp P o a w K Q else D := by
  rw [if_pos hw]
  exact wp_appY E hg s x ho v l hs hown m y hy hx hr hn h63 hbytes h
theorem Sl.fresh' (w : World) (cs : Array Value) (e : TypeId) (sz n g : Nat) (hg : w.heap.size = g) (hs : cs.size = n * sz) : Sl (w.alloc (.cells cs e)) sz (some ⟨g, 0, none⟩) n cs.toList := by subst hg; exact Sl.fresh w cs e sz n hs
theorem Sl.preG {α : Type} {g : α → List Value} {w : World} {sz : Nat} {A : Option Addr} {n k : Nat} {l : List α} (hg : ∀ x, (g x).length = sz) (h : Sl w sz A n (l.flatMap g)) (hk : k ≤ n) : Sl w sz A k ((l.take k).flatMap g) := by
  have := h.pre hk; rwa [flatMap_take g sz hg] at this
theorem Sl.cutG {α : Type} {g : α → List Value} {w : World} {sz : Nat} {A : Option Addr} {n k cap : Nat} {l : List α} (hg : ∀ x, (g x).length = sz) (h : Sl w sz A n (l.flatMap g)) (hk : k ≤ n) (hc : n ≤ cap) : Sl w sz (if cap = k then A else A.map (·.add (k * sz))) (n - k) ((l.drop k).flatMap g) := by
  have := h.cut hk hc; rwa [flatMap_drop g sz hg] at this
theorem Sl.drew {w : World} {sz n : Nat} {A : Option Addr} {xs : List Value} (h : Sl w sz A n xs) : Sl w.drew sz A n xs := h
theorem Sl.drewN {w : World} {sz n : Nat} {A : Option Addr} {xs : List Value} (h : Sl w sz A n xs) (k : Nat) : Sl (w.drewN k) sz A n xs := h
end Go.Proofs.Ytfdgklfkpofkeaa
