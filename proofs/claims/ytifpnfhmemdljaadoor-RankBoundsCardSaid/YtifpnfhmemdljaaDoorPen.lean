/-
  bits.Pen: the walk of Put. A pen holds the bits that were written, packed into bytes.
-/
import Derived.Test.YtifpnfhmemdljaaDoorNum
namespace Go.Proofs.YtifpnfhmemdljaaDoor
open Go.RowKit
set_option linter.unusedVariables false

def packStep (l : List UInt8) (n : Nat) (b : Bool) : List UInt8 :=
  let l1 := if n % 8 = 0 then l ++ [0] else l
  l1.set (n / 8) (l1.getD (n / 8) 0 ||| (if b then UInt8.ofNat (2 ^ (7 - n % 8)) else 0))
def packGo (s : List UInt8 × Nat) (b : Bool) : List UInt8 × Nat := (packStep s.1 s.2 b, s.2 + 1)
def pack (bs : List Bool) : List UInt8 := (bs.foldl packGo ([], 0)).1
theorem packGo_n (bs : List Bool) (s : List UInt8 × Nat) : (bs.foldl packGo s).2 = s.2 + bs.length := by
  induction bs generalizing s with
  | nil => rfl
  | cons b bs ih => rw [List.foldl_cons, ih]; simp [packGo]; omega
theorem pack_snoc (bs : List Bool) (b : Bool) : pack (bs ++ [b]) = packStep (pack bs) bs.length b := by
  unfold pack
  rw [List.foldl_append, List.foldl_cons, List.foldl_nil]
  show packStep _ _ b = _
  rw [packGo_n, Nat.zero_add]
theorem pack_len (bs : List Bool) : (pack bs).length = (bs.length + 7) / 8 := by
  have H : ∀ n, ∀ bs : List Bool, bs.length = n → (pack bs).length = (n + 7) / 8 := by
    intro n
    induction n with
    | zero => intro bs h; rw [List.eq_nil_of_length_eq_zero h]; rfl
    | succ n ih =>
      intro bs h
      obtain ⟨cs, c, rfl⟩ : ∃ cs c, bs = cs ++ [c] := ⟨bs.take n, bs[n], by rw [List.take_append_getElem, List.take_of_length_le (by omega)]⟩
      have hn : cs.length = n := by simp at h; omega
      rw [pack_snoc, packStep, hn]
      rw [List.length_set]
      split
      · rw [List.length_append, ih cs hn]; simp; omega
      · rw [ih cs hn]; omega
  exact H _ bs rfl

/-- the bits of a number, the highest one first -/
def bitsOf (width val : Nat) : List Bool := (List.range width).map fun i => val.testBit (width - 1 - i)

theorem bitsOf_len (width val : Nat) : (bitsOf width val).length = width := by simp [bitsOf]
theorem bitsOf_at (width val j : Nat) (h : j < width) : (bitsOf width val)[j]? = some (val.testBit (width - 1 - j)) := by simp [bitsOf, h]

/-! ### the pen in memory: its two fields in block g, its bytes in a row of their own -/
structure PenM (w : World) (g : Nat) (v : Value) (l : List UInt8) (n : Nat) : Prop where
  blk : Blk w g 53 #[v, .int .i64 (n : Int)]
  own : w.ownsRow 0 5 1 v l.length (l.flatMap gB)
def PenAt (w : World) (g : Nat) (v : Value) (bs : List Bool) : Prop := PenM w g v (pack bs) bs.length
/-- what a call that writes with the pen may have changed -/
structure PenCh (g : Nat) (w : World) (v : Value) (w' : World) (v' : Value) : Prop where
  chg : Chg (fun k => k = g ∨ v.ownBlock = some k) w w'
  row : ∀ k, v'.ownBlock = some k → v.ownBlock = some k ∨ w.heap.size ≤ k
theorem PenCh.refl (g : Nat) (w : World) (v : Value) : PenCh g w v w v := ⟨Chg.refl _ _, fun k h => .inl h⟩
theorem PenCh.trans {g : Nat} {a b c : World} {u v x : Value} (h : PenCh g a u b v) (k : PenCh g b v c x) : PenCh g a u c x :=
  ⟨h.chg.trans k.chg fun i hi hm => by
    rcases hm with rfl | hm
    · exact .inl rfl
    · rcases h.row i hm with h1 | h1
      · exact .inr h1
      · omega,
   fun i hi => by
    rcases k.row i hi with h1 | h1
    · exact h.row i h1
    · exact .inr (Nat.le_trans h.chg.size h1)⟩
theorem PenM.ne {w : World} {g : Nat} {v : Value} {l : List UInt8} {n : Nat} (h : PenM w g v l n) : v.ownBlock ≠ some g := own_ne_blk h.own h.blk (by decide)
theorem PenM.cells {w : World} {g : Nat} {v : Value} {l : List UInt8} {n : Nat} (h : PenM w g v l n) :
    w.cell? ⟨g, 0, none⟩ = some v ∧ w.cell? ⟨g, 1, none⟩ = some (.int .i64 (n : Int)) ∧ w.frozen? ⟨g, 0, none⟩ = false ∧ w.frozen? ⟨g, 1, none⟩ = false :=
  ⟨h.blk.cell 0, h.blk.cell 1, h.blk.frozen 0, h.blk.frozen 1⟩
theorem PenM.step {w w' : World} {g : Nat} {v : Value} {l : List UInt8} {n : Nat} (h : PenM w g v l n) (hb : Below w.heap.size w w') : PenM w' g v l n := ⟨h.blk.below' hb, own_below h.own hb⟩
theorem PenCh.step {g : Nat} {w a b : World} {u v : Value} (h : PenCh g w u a v) (hb : Below a.heap.size a b) : PenCh g w u b v :=
  h.trans ⟨Chg.of_below hb fun k hk hle => absurd hk (by omega), fun k hk => .inl hk⟩
/-- behind an append onto the pen's bytes and the store of the new slice into its field -/
theorem PenM.grow {w w' : World} {g : Nat} {v v' : Value} {l l' : List UInt8} {n : Nat} (h : PenM w g v l n) (hown : w'.ownsRow 0 5 1 v' l'.length (l'.flatMap gB)) (hg : w.grownBy w' v.ownBlock) (hb : ∀ k, v'.ownBlock = some k → v.ownBlock = some k ∨ w.heap.size ≤ k) :
    PenM (w'.setCell ⟨g, 0, none⟩ v') g v' l' n ∧ PenCh g w v (w'.setCell ⟨g, 0, none⟩ v') v' := by
  have hblk : Blk w' g 53 #[v, .int .i64 (n : Int)] := (hg.block g h.blk.lt (fun e => h.ne e.symm)).trans h.blk
  have hc : Chg (fun k => k = g ∨ v.ownBlock = some k) w w' := Chg.of_grown hg fun k hk => .inr hk
  refine ⟨⟨hblk.set_ 0 v', own_chg hown ((Chg.refl (fun k => k = g) w').setCell (p := ⟨g, 0, none⟩) (fun _ => rfl) v') fun k hk hkg => ?_⟩, ⟨hc.setCell (p := ⟨g, 0, none⟩) (fun _ => .inl rfl) v', hb⟩⟩
  subst hkg
  rcases hb _ hk with h1 | h1
  · exact h.ne h1
  · have := h.blk.lt; omega
/-- behind the store of a byte into the pen's row -/
theorem PenM.byte {w : World} {g r L c i n : Nat} {l : List UInt8} (h : PenM w g (.slice (some ⟨r, 0, none⟩) L c) l n) (hL : l.length = L) (hi : i < l.length) (y : UInt8) :
    PenM (w.setCell ⟨r, i, none⟩ (.int .u8 (y.toNat : Int))) g (.slice (some ⟨r, 0, none⟩) L c) (l.set i y) n ∧ PenCh g w (.slice (some ⟨r, 0, none⟩) L c) (w.setCell ⟨r, i, none⟩ (.int .u8 (y.toNat : Int))) (.slice (some ⟨r, 0, none⟩) L c) := by
  subst hL
  have hne : g ≠ r := fun e => h.ne (by rw [e]; rfl)
  refine ⟨⟨h.blk.far hne _, by rw [List.length_set]; exact own_set h.own hi y⟩, ⟨(Chg.refl _ w).setCell (p := ⟨r, i, none⟩) (fun _ => .inr rfl) _, fun k hk => .inl hk⟩⟩
/-- behind the store of the new count -/
theorem PenM.count {w : World} {g n : Nat} {v : Value} {l : List UInt8} (h : PenM w g v l n) (m : Nat) :
    PenM (w.setCell ⟨g, 1, none⟩ (.int .i64 (m : Int))) g v l m ∧ PenCh g w v (w.setCell ⟨g, 1, none⟩ (.int .i64 (m : Int))) v :=
  ⟨⟨h.blk.set_ 1 _, own_chg h.own ((Chg.refl (fun k => k = g) w).setCell (p := ⟨g, 1, none⟩) (fun _ => rfl) _) fun k hk hkg => h.ne (by rw [hk, hkg])⟩, ⟨(Chg.refl _ w).setCell (p := ⟨g, 1, none⟩) (fun _ => .inl rfl) _, fun k hk => .inl hk⟩⟩

theorem PenM.cell8 {w : World} {g r L c i n : Nat} {l : List UInt8} {x : UInt8} (h : PenM w g (.slice (some ⟨r, 0, none⟩) L c) l n) (hi : l[i]? = some x) : w.cell? ⟨r, i, none⟩ = some (.int .u8 (x.toNat : Int)) ∧ w.frozen? ⟨r, i, none⟩ = false := by
  have hln : L = l.length := by
    rcases h.own.2 with ⟨hv, h0⟩ | ⟨_, _, _, hv, _⟩
    · injection hv with _ h1; omega
    · injection hv
  subst hln
  exact own_cellB h.own hi
theorem PenM.cells_grown {w w' : World} {g : Nat} {v : Value} {l : List UInt8} {n : Nat} (h : PenM w g v l n) (hg : w.grownBy w' v.ownBlock) :
    w'.cell? ⟨g, 0, none⟩ = some v ∧ w'.cell? ⟨g, 1, none⟩ = some (.int .i64 (n : Int)) ∧ w'.frozen? ⟨g, 0, none⟩ = false ∧ w'.frozen? ⟨g, 1, none⟩ = false := by
  have hblk : Blk w' g 53 #[v, .int .i64 (n : Int)] := (hg.block g h.blk.lt (fun e => h.ne e.symm)).trans h.blk
  exact ⟨hblk.cell 0, hblk.cell 1, hblk.frozen 0, hblk.frozen 1⟩
theorem grown_alloc {w w' : World} {o : Obj} {row : Option Nat} (h : (w.alloc o).grownBy w' row) : w.grownBy w' row := (World.grownBy_alloc w o row).trans h
theorem pen_row {w : World} {o : Obj} {v : Value} {b n c : Nat} (h : v.ownBlock = some b ∨ b = (w.alloc o).heap.size) : ∀ k, (Value.slice (some ⟨b, 0, none⟩) n c).ownBlock = some k → v.ownBlock = some k ∨ w.heap.size ≤ k := by
  intro k hk
  obtain rfl : b = k := by simpa [Value.ownBlock] using hk
  rcases h with h | h
  · exact .inl h
  · right; rw [h]; simp
theorem pen_byte (x : UInt8) (val k n : Nat) (hk : k < 63) (hv : val < 9223372036854775808) :
    bits .or .u8 (x.toNat : Int) (bits .and .i64 ((val : Int) / 2 ^ k) 1 % 256 * 2 ^ (7 - n % 8) % 256) = ((x ||| (if val.testBit k then UInt8.ofNat (2 ^ (7 - n % 8)) else 0)).toNat : Int) := by
  have e0 : ((val : Int) / 2 ^ k) = ((val / 2 ^ k : Nat) : Int) := by rw [Int.natCast_ediv, Int.natCast_pow]; rfl
  have hd : val / 2 ^ k ≤ val := Nat.div_le_self _ _
  have e1 : bits .and .i64 ((val : Int) / 2 ^ k) 1 = if val.testBit k then 1 else 0 := by
    rw [e0, show (1 : Int) = ((1 : Nat) : Int) from rfl, i64_and _ _ (by omega) (by omega), Nat.and_one_is_mod, Nat.testBit_eq_decide_div_mod_eq]
    by_cases h : val / 2 ^ k % 2 = 1
    · simp [h]
    · have : val / 2 ^ k % 2 = 0 := by omega
      simp [this]
  rw [e1]
  have hp : 2 ^ (7 - n % 8) ≤ 2 ^ 7 := Nat.pow_le_pow_right (by decide) (by omega)
  have or8 : ∀ a b : UInt8, bits .or .u8 (a.toNat : Int) (b.toNat : Int) = ((a ||| b).toNat : Int) := by
    intro a b
    show IntKind.u8.wrap ((BitVec.ofInt 8 (a.toNat : Int) ||| BitVec.ofInt 8 (b.toNat : Int)).toNat : Int) = _
    have e : ∀ c : UInt8, (BitVec.ofInt 8 (c.toNat : Int)).toNat = c.toNat := by
      intro c; rw [BitVec.ofInt_natCast, BitVec.toNat_ofNat]; exact Nat.mod_eq_of_lt c.toNat_lt
    rw [BitVec.toNat_or, e, e, UInt8.toNat_or]
    have : a.toNat ||| b.toNat < 256 := by rw [← UInt8.toNat_or]; exact (a ||| b).toNat_lt
    generalize a.toNat ||| b.toNat = n at *
    simp [IntKind.wrap, IntKind.signed, IntKind.bits]
    omega
  rw [← or8]
  congr 1
  by_cases h : val.testBit k
  · rw [if_pos h, if_pos h]
    have : ((2 : Int) ^ (7 - n % 8)) = ((2 ^ (7 - n % 8) : Nat) : Int) := by rw [Int.natCast_pow]; rfl
    rw [this]
    generalize 2 ^ (7 - n % 8) = q at *
    simp
  · rw [if_neg h, if_neg h]; simp

set_option maxRecDepth 100000 in
set_option maxHeartbeats 2000000 in
theorem pen_put (w : World) (g : Nat) (v : Value) (bs : List Bool) (width val : Nat) (hw : width < 63) (hv : val < 9223372036854775808) (hb : bs.length + width < 1000000000) (hp : PenAt w g v bs) :
    Calls Tryd.prog 18 #[.pointer (some ⟨g, 0, none⟩), .int .i64 (width : Int), .int .i64 (val : Int)] w fun e w' => e = .returned (.tuple #[]) ∧ ∃ v', PenAt w' g v' (bs ++ bitsOf width val) ∧ PenCh g w v w' v' := by
  have HP := hid hp; clear hp
  go_enter Tryd.func18, Tryd.ntmps18
  go_wp2
  go_loopw [6] (fun i wr => ∃ j : Nat, ∃ v', j ≤ width ∧ i = .int .i64 ((width : Int) - 1 - (j : Int)) ∧ PenAt wr g v' (bs ++ (bitsOf width val).take j) ∧ PenCh g w v wr v') (fun i _ => (intOf i + 1).toNat)
  case atStart => exact ⟨0, v, by omega, by simp, by simpa using HP.out, PenCh.refl _ _ _⟩
  case round =>
    obtain ⟨j, v', hj, rfl, hp', hc'⟩ := hrel
    have HP' := hid hp'; have HC' := hid hc'; clear hp' hc'
    by_cases hlt : j < width
    · have hlen : (bs ++ (bitsOf width val).take j).length = bs.length + j := by rw [List.length_append, List.length_take, bitsOf_len]; omega
      have HN := hid (show bs ++ (bitsOf width val).take (j + 1) = (bs ++ (bitsOf width val).take j) ++ [val.testBit (width - 1 - j)] by rw [take_next (bitsOf_at width val j hlt), List.append_assoc])
      obtain ⟨k, hk⟩ : ∃ k : Nat, width = k + 1 + j := ⟨width - 1 - j, by omega⟩
      have ek : (width : Int) - 1 - (j : Int) = (k : Int) := by omega
      have ek2 : width - 1 - j = k := by omega
      rw [ek2] at HN
      rw [ek]
      have hk2 : k < 63 := by omega
      have HK := hid hk; have HK1 := hid ek; have HK2 := hid ek2; clear hk ek ek2
      generalize hcs : bs ++ (bitsOf width val).take j = cs at *
      clear hcs
      have hn : cs.length < 1000000000 := by omega
      clear hlen
      obtain ⟨l, hl⟩ : ∃ l, pack cs = l := ⟨_, rfl⟩
      have hll : l.length = (cs.length + 7) / 8 := by rw [← hl, pack_len]
      have HL := hid hl; have HLL := hid hll; clear hl hll
      obtain ⟨n, hn'⟩ : ∃ n, cs.length = n := ⟨_, rfl⟩
      have HM : Hid (PenM wr g v' l n) := by have := HP'.out; unfold PenAt at this; rw [HL.out, hn'] at this; exact this
      have HNN := hid hn'
      rw [hn'] at hn
      clear hn'
      obtain ⟨c0, c1, f0, f1⟩ := HM.out.cells
      by_cases h8 : n % 8 = 0
      · have e8 : (((n : Int) % 8) == 0) = true := by simp; omega
        have hll := HLL.out
        have hnn := HNN.out
        have HLe := hid (show l.length = n / 8 by rw [hll, hnn]; omega)
        have hl9 : l.length < 1000000000 := by omega
        clear hll hnn
        have EB := pen_byte 0 val k n hk2 hv
        obtain ⟨y, hy⟩ : ∃ y, ((0 : UInt8) ||| (if val.testBit k then UInt8.ofNat (2 ^ (7 - n % 8)) else 0)) = y := ⟨_, rfl⟩
        rw [hy] at EB
        have EB0 : bits .or .u8 0 (bits .and .i64 ((val : Int) / 2 ^ k) 1 % 256 * 2 ^ (7 - n % 8) % 256) = (y.toNat : Int) := EB
        clear EB
        have H8 := hid h8; clear h8
        have HY := hid hy; clear hy
        obtain ⟨l1, hl1⟩ : ∃ l1, l ++ [(0 : UInt8)] = l1 := ⟨_, rfl⟩
        have HLr := hid (show l1.length = n / 8 + 1 by rw [← hl1, List.length_append, HLe.out]; rfl)
        have hr1 : n / 8 < l1.length := by rw [HLr.out]; omega
        have hr2 : l1.length ≤ 1000000000 := by rw [HLr.out]; omega
        have HX := hid (show l1[n / 8]? = some (0 : UInt8) by rw [← hl1, List.getElem?_append_right (by rw [HLe.out]; exact Nat.le_refl _), HLe.out]; simp)
        have HL1 := hid hl1; clear hl1
        go_wp2_with (at_builtin; refine wpList_app1 elmB (fun _ => rfl) gB_one rfl (.tmp 23) (.tmp 24) rfl v' l rfl (own_below HM.out.own (bnew (bnil wr) _)) [0] l1 HL1 rfl (Sl.fresh wr #[.int .u8 0] 5 1 1 rfl) rfl (by omega) (by simp only [maxLen]; omega) (by omega) (Nat.zero_le _) ?_; intro r cap w1 hcl hcm HO HG HB; have HG2 := hid (grown_alloc HG.out); obtain ⟨hMg, hCg⟩ := HM.out.grow (l' := l1) HO.out HG2.out (pen_row HB.out); have HMg := hid hMg; have HCg := hid hCg; clear hMg hCg; clear c0 c1 f0 f1; obtain ⟨c0a, c1, f0, f1⟩ := HM.out.cells_grown HG2.out; obtain ⟨cx, fx⟩ := HMg.out.cell8 HX.out; clear c1 f1; obtain ⟨c0, c1, _, f1⟩ := HMg.out.cells)
        clear c0a
        unfold maxLen at hcm
        have hcm' : cap ≤ 9223372036854775807 := hcm
        clear hcm
        generalize World.setCell w1 ⟨g, 0, none⟩ (.slice (some ⟨r, 0, none⟩) l1.length cap) = wa at *
        go_region
        obtain ⟨hM1, hC1⟩ := HMg.out.byte rfl hr1 y
        have HM2 := hid (hM1.step (bnil _).drew)
        have HC2 := hid (hC1.step (bnil _).drew)
        clear hM1 hC1 c0 c1 f0 f1 cx fx EB0
        generalize World.drew (World.setCell wa ⟨r, n / 8, none⟩ (.int .u8 (y.toNat : Int))) = W2 at *
        obtain ⟨_, c1, _, f1⟩ := HM2.out.cells
        go_wp2
        obtain ⟨hM3, hC3⟩ := HM2.out.count (n + 1)
        have HM3 := hid hM3; have HC3 := hid hC3; clear hM3 hC3
        go_roundw
        case rel =>
          refine ⟨j + 1, _, by omega, ?_, ?_, HC'.out.trans (HCg.out.trans (HC2.out.trans HC3.out))⟩
          · have := HK.out; congr 1; omega
          · rw [HN.out]
            unfold PenAt
            rw [pack_snoc, HL.out, HNN.out, packStep, List.length_append, HNN.out, List.length_singleton]
            rw [if_pos H8.out, HL1.out]
            rw [show l1.getD (n / 8) 0 = 0 from by rw [List.getD_eq_getElem?_getD, HX.out]; rfl, HY.out]
            exact HM3.out
        case measure => simp [intOf] <;> omega
      · have e8 : (((n : Int) % 8) == 0) = false := by simp; omega
        have hll := HLL.out
        have hnn := HNN.out
        obtain ⟨r, cap, cur, rfl, _, hk', hs, hcl, hcm, _⟩ := own_row HM.out.own (by omega)
        obtain ⟨x, hx⟩ : ∃ x, l[n / 8]? = some x := ⟨_, List.getElem?_eq_getElem (by omega)⟩
        have HX := hid hx; clear hx
        obtain ⟨cx, fx⟩ := own_cellB HM.out.own HX.out
        have hll2 : n / 8 < l.length := by omega
        have HLL2 := hid hll; have HNN2 := hid hnn; clear hll hnn
        have EB := pen_byte x val k n hk2 hv
        obtain ⟨y, hy⟩ : ∃ y, (x ||| (if val.testBit k then UInt8.ofNat (2 ^ (7 - n % 8)) else 0)) = y := ⟨_, rfl⟩
        rw [hy] at EB
        have HY := hid hy; clear hy
        unfold maxLen at hcm
        have hcm' : cap ≤ 9223372036854775807 := hcm
        clear hcm hs hk'
        go_wp2
        go_region
        obtain ⟨hM1, hC1⟩ := HM.out.byte rfl hll2 y
        have HM2 := hid (hM1.step (bnil _).drew)
        have HC2 := hid (hC1.step (bnil _).drew)
        clear hM1 hC1 c0 c1 f0 f1 cx fx EB
        generalize World.drew (World.setCell wr ⟨r, n / 8, none⟩ (.int .u8 (y.toNat : Int))) = W2 at *
        obtain ⟨_, c1, _, f1⟩ := HM2.out.cells
        go_wp2
        obtain ⟨hM3, hC3⟩ := HM2.out.count (n + 1)
        have HM3 := hid hM3; have HC3 := hid hC3; clear hM3 hC3
        go_roundw
        case rel =>
          refine ⟨j + 1, _, by omega, ?_, ?_, HC'.out.trans (HC2.out.trans HC3.out)⟩
          · have := HK.out; congr 1; omega
          · rw [HN.out]
            unfold PenAt
            rw [pack_snoc, HL.out, HNN.out, packStep, List.length_append, HNN.out, List.length_singleton]
            simp only [h8, if_false]
            rw [show l.getD (n / 8) 0 = x from by rw [List.getD_eq_getElem?_getD, HX.out]; rfl, HY.out]
            exact HM3.out
        case measure => simp [intOf] <;> omega
    · obtain rfl : j = width := by omega
      go_wp2
      go_end0
      refine ⟨rfl, v', ?_, HC'.out⟩
      have := HP'.out
      rwa [List.take_of_length_le (by rw [bitsOf_len]; omega)] at this
end Go.Proofs.YtifpnfhmemdljaaDoor
