/-
  lin.May of a history that may be, and lin.Check: their walks.
-/
import Derived.Test.YtfdgklfkpofkeaaLnFnd
namespace Go.Proofs.Ytfdgklfkpofkeaa
open Go.RowKit Go.Maps
set_option linter.unusedVariables false

/-- what may be asked -/
def LMayC (k : Nat) (a : LA) : Prop := 0 ≤ a.b ∧ a.b ≤ 1048576 ∧ (a.e = -1 ∨ (a.b ≤ a.e ∧ a.e ≤ 1048576)) ∧ (a.by_ = 0 ∨ (k = 1 ∧ a.put = true)) ∧ (2 ≤ k → a.val < 0 → a.put = false ∧ a.val = -1)
def LO.init (kd : Nat) (first : Int) : LO := if kd = 0 then .reg first else if kd = 1 then .ctr first else if kd = 2 then .heap false [] else .heap true []
theorem init_kd {kd : Nat} (h : kd < 4) (first : Int) : (LO.init kd first).kd = kd := by
  have : kd = 0 ∨ kd = 1 ∨ kd = 2 ∨ kd = 3 := by omega
  rcases this with rfl | rfl | rfl | rfl <;> rfl
theorem lin_in (x lo hi : Int) (w : World) (h1 : lo ≤ x) (h2 : x ≤ hi) : Calls Try.prog 36 #[.int .i64 x, .int .i64 lo, .int .i64 hi] w fun e w' => e = .returned (.bool true) ∧ w' = w := by
  have q1 : decide (lo ≤ x) = true := by simp [h1]
  have q2 : decide (x ≤ hi) = true := by simp [h2]
  go_enter Try.func36, Try.ntmps36
  go_wp2_with fail
  go_ret
  exact ⟨by simp, rfl⟩
theorem lin_held (k : Nat) (hk : k < 4) (w : World) : Calls Try.prog 39 #[.int .i64 ((k : Int) + 1)] w fun e w' => e = .returned (.bool (decide (2 ≤ k))) ∧ w' = w := by
  have : k = 0 ∨ k = 1 ∨ k = 2 ∨ k = 3 := by omega
  rcases this with rfl | rfl | rfl | rfl
  all_goals
    go_enter Try.func39, Try.ntmps39
    go_wp2_with fail
    go_ret
    exact ⟨rfl, rfl⟩
set_option maxRecDepth 100000 in
set_option maxHeartbeats 4000000 in
theorem may_odd9 (b kd : Nat) (a : LA) (w : World) (hk : kd < 4) (hb : w.cell? ⟨b, 0, none⟩ = some (.int .i64 ((kd : Int) + 1))) (ha : LMayC kd a) :
    Calls Try.prog 38 #[actV a, .pointer (some ⟨b, 0, none⟩)] w fun e w' => e = .returned (.bool false) ∧ Below w.heap.size w w' := by
  have lb := World.block_lt_of_cell? w _ hb
  have lb' : b < w.heap.size := lb
  obtain ⟨ab, ae, ap, av, ay⟩ := a
  obtain ⟨a1, a2, a3, a4, a5⟩ := ha
  have A1 := hid a1; have A2 := hid a2
  by_cases hy : ay = 0
  · subst hy
    clear a4
    have hkk : kd = 0 ∨ kd = 1 ∨ kd = 2 ∨ kd = 3 := by omega
    rcases hkk with rfl | rfl | rfl | rfl
    · clear a5
      by_cases he : ae = -1
      · subst he
        clear a1 a2 a3
        go_enter Try.func38, Try.ntmps38
        go_wp2_with fail
        refine (lin_in ab 0 1048576 _ A1.out A2.out).mono ?_
        rintro e w2 ⟨rfl, rfl⟩
        go_wp2_with fail
        refine (lin_held 0 hk _).mono ?_
        rintro e w2 ⟨rfl, rfl⟩
        go_wp2_with fail
        go_ret
        exact ⟨rfl, bnew (bnil w) _⟩
      · have A3 := hid (show ab ≤ ae ∧ ae ≤ 1048576 from a3.resolve_left he)
        have q1 : ((ae : Int) != -1) = true := by simp [he]
        clear a1 a2 a3 he
        go_enter Try.func38, Try.ntmps38
        go_wp2_with fail
        refine (lin_in ab 0 1048576 _ A1.out A2.out).mono ?_
        rintro e w2 ⟨rfl, rfl⟩
        go_wp2_with fail
        refine (lin_in ae ab 1048576 _ A3.out.1 A3.out.2).mono ?_
        rintro e w2 ⟨rfl, rfl⟩
        go_wp2_with fail
        refine (lin_held 0 hk _).mono ?_
        rintro e w2 ⟨rfl, rfl⟩
        go_wp2_with fail
        go_ret
        exact ⟨rfl, bnew (bnil w) _⟩
    · clear a5
      by_cases he : ae = -1
      · subst he
        clear a1 a2 a3
        go_enter Try.func38, Try.ntmps38
        go_wp2_with fail
        refine (lin_in ab 0 1048576 _ A1.out A2.out).mono ?_
        rintro e w2 ⟨rfl, rfl⟩
        go_wp2_with fail
        refine (lin_held 1 hk _).mono ?_
        rintro e w2 ⟨rfl, rfl⟩
        go_wp2_with fail
        go_ret
        exact ⟨rfl, bnew (bnil w) _⟩
      · have A3 := hid (show ab ≤ ae ∧ ae ≤ 1048576 from a3.resolve_left he)
        have q1 : ((ae : Int) != -1) = true := by simp [he]
        clear a1 a2 a3 he
        go_enter Try.func38, Try.ntmps38
        go_wp2_with fail
        refine (lin_in ab 0 1048576 _ A1.out A2.out).mono ?_
        rintro e w2 ⟨rfl, rfl⟩
        go_wp2_with fail
        refine (lin_in ae ab 1048576 _ A3.out.1 A3.out.2).mono ?_
        rintro e w2 ⟨rfl, rfl⟩
        go_wp2_with fail
        refine (lin_held 1 hk _).mono ?_
        rintro e w2 ⟨rfl, rfl⟩
        go_wp2_with fail
        go_ret
        exact ⟨rfl, bnew (bnil w) _⟩
    · by_cases hv : av < 0
      · obtain ⟨h1, h2⟩ := a5 (by omega) hv
        subst h1; subst h2
        clear hv a5
        by_cases he : ae = -1
        · subst he
          clear a1 a2 a3
          go_enter Try.func38, Try.ntmps38
          go_wp2_with fail
          refine (lin_in ab 0 1048576 _ A1.out A2.out).mono ?_
          rintro e w2 ⟨rfl, rfl⟩
          go_wp2_with fail
          refine (lin_held 2 hk _).mono ?_
          rintro e w2 ⟨rfl, rfl⟩
          go_wp2_with fail
          go_ret
          exact ⟨rfl, bnew (bnil w) _⟩
        · have A3 := hid (show ab ≤ ae ∧ ae ≤ 1048576 from a3.resolve_left he)
          have q1 : ((ae : Int) != -1) = true := by simp [he]
          clear a1 a2 a3 he
          go_enter Try.func38, Try.ntmps38
          go_wp2_with fail
          refine (lin_in ab 0 1048576 _ A1.out A2.out).mono ?_
          rintro e w2 ⟨rfl, rfl⟩
          go_wp2_with fail
          refine (lin_in ae ab 1048576 _ A3.out.1 A3.out.2).mono ?_
          rintro e w2 ⟨rfl, rfl⟩
          go_wp2_with fail
          refine (lin_held 2 hk _).mono ?_
          rintro e w2 ⟨rfl, rfl⟩
          go_wp2_with fail
          go_ret
          exact ⟨rfl, bnew (bnil w) _⟩
      · have q2 : decide (av < 0) = false := by simp; omega
        clear hv a5
        by_cases he : ae = -1
        · subst he
          clear a1 a2 a3
          go_enter Try.func38, Try.ntmps38
          go_wp2_with fail
          refine (lin_in ab 0 1048576 _ A1.out A2.out).mono ?_
          rintro e w2 ⟨rfl, rfl⟩
          go_wp2_with fail
          refine (lin_held 2 hk _).mono ?_
          rintro e w2 ⟨rfl, rfl⟩
          go_wp2_with fail
          go_ret
          exact ⟨rfl, bnew (bnil w) _⟩
        · have A3 := hid (show ab ≤ ae ∧ ae ≤ 1048576 from a3.resolve_left he)
          have q1 : ((ae : Int) != -1) = true := by simp [he]
          clear a1 a2 a3 he
          go_enter Try.func38, Try.ntmps38
          go_wp2_with fail
          refine (lin_in ab 0 1048576 _ A1.out A2.out).mono ?_
          rintro e w2 ⟨rfl, rfl⟩
          go_wp2_with fail
          refine (lin_in ae ab 1048576 _ A3.out.1 A3.out.2).mono ?_
          rintro e w2 ⟨rfl, rfl⟩
          go_wp2_with fail
          refine (lin_held 2 hk _).mono ?_
          rintro e w2 ⟨rfl, rfl⟩
          go_wp2_with fail
          go_ret
          exact ⟨rfl, bnew (bnil w) _⟩
    · by_cases hv : av < 0
      · obtain ⟨h1, h2⟩ := a5 (by omega) hv
        subst h1; subst h2
        clear hv a5
        by_cases he : ae = -1
        · subst he
          clear a1 a2 a3
          go_enter Try.func38, Try.ntmps38
          go_wp2_with fail
          refine (lin_in ab 0 1048576 _ A1.out A2.out).mono ?_
          rintro e w2 ⟨rfl, rfl⟩
          go_wp2_with fail
          refine (lin_held 3 hk _).mono ?_
          rintro e w2 ⟨rfl, rfl⟩
          go_wp2_with fail
          go_ret
          exact ⟨rfl, bnew (bnil w) _⟩
        · have A3 := hid (show ab ≤ ae ∧ ae ≤ 1048576 from a3.resolve_left he)
          have q1 : ((ae : Int) != -1) = true := by simp [he]
          clear a1 a2 a3 he
          go_enter Try.func38, Try.ntmps38
          go_wp2_with fail
          refine (lin_in ab 0 1048576 _ A1.out A2.out).mono ?_
          rintro e w2 ⟨rfl, rfl⟩
          go_wp2_with fail
          refine (lin_in ae ab 1048576 _ A3.out.1 A3.out.2).mono ?_
          rintro e w2 ⟨rfl, rfl⟩
          go_wp2_with fail
          refine (lin_held 3 hk _).mono ?_
          rintro e w2 ⟨rfl, rfl⟩
          go_wp2_with fail
          go_ret
          exact ⟨rfl, bnew (bnil w) _⟩
      · have q2 : decide (av < 0) = false := by simp; omega
        clear hv a5
        by_cases he : ae = -1
        · subst he
          clear a1 a2 a3
          go_enter Try.func38, Try.ntmps38
          go_wp2_with fail
          refine (lin_in ab 0 1048576 _ A1.out A2.out).mono ?_
          rintro e w2 ⟨rfl, rfl⟩
          go_wp2_with fail
          refine (lin_held 3 hk _).mono ?_
          rintro e w2 ⟨rfl, rfl⟩
          go_wp2_with fail
          go_ret
          exact ⟨rfl, bnew (bnil w) _⟩
        · have A3 := hid (show ab ≤ ae ∧ ae ≤ 1048576 from a3.resolve_left he)
          have q1 : ((ae : Int) != -1) = true := by simp [he]
          clear a1 a2 a3 he
          go_enter Try.func38, Try.ntmps38
          go_wp2_with fail
          refine (lin_in ab 0 1048576 _ A1.out A2.out).mono ?_
          rintro e w2 ⟨rfl, rfl⟩
          go_wp2_with fail
          refine (lin_in ae ab 1048576 _ A3.out.1 A3.out.2).mono ?_
          rintro e w2 ⟨rfl, rfl⟩
          go_wp2_with fail
          refine (lin_held 3 hk _).mono ?_
          rintro e w2 ⟨rfl, rfl⟩
          go_wp2_with fail
          go_ret
          exact ⟨rfl, bnew (bnil w) _⟩
  · obtain ⟨h1, h2⟩ := a4.resolve_left hy
    subst h1; subst h2
    have q2 : ((ay : Int) != 0) = true := by simp [hy]
    clear a4 a5 hy
    by_cases he : ae = -1
    · subst he
      clear a1 a2 a3
      go_enter Try.func38, Try.ntmps38
      go_wp2_with fail
      refine (lin_in ab 0 1048576 _ A1.out A2.out).mono ?_
      rintro e w2 ⟨rfl, rfl⟩
      go_wp2_with fail
      refine (lin_held 1 hk _).mono ?_
      rintro e w2 ⟨rfl, rfl⟩
      go_wp2_with fail
      go_ret
      exact ⟨rfl, bnew (bnil w) _⟩
    · have A3 := hid (show ab ≤ ae ∧ ae ≤ 1048576 from a3.resolve_left he)
      have q1 : ((ae : Int) != -1) = true := by simp [he]
      clear a1 a2 a3 he
      go_enter Try.func38, Try.ntmps38
      go_wp2_with fail
      refine (lin_in ab 0 1048576 _ A1.out A2.out).mono ?_
      rintro e w2 ⟨rfl, rfl⟩
      go_wp2_with fail
      refine (lin_in ae ab 1048576 _ A3.out.1 A3.out.2).mono ?_
      rintro e w2 ⟨rfl, rfl⟩
      go_wp2_with fail
      refine (lin_held 1 hk _).mono ?_
      rintro e w2 ⟨rfl, rfl⟩
      go_wp2_with fail
      go_ret
      exact ⟨rfl, bnew (bnil w) _⟩
theorem acts_at {w : World} {A : Option Addr} {n : Nat} {l : List LA} (h : Sl w 5 A n (l.flatMap gA)) (hl : l.length = n) {k : Nat} (hk : k < n) :
    ∃ ad a, A = some ad ∧ l[k]? = some a ∧ w.cell? (ad.add (k * 5)) = some (.int .i64 a.b) ∧ w.cell? ⟨(ad.add (k * 5)).block, (ad.add (k * 5)).off + 1, none⟩ = some (.int .i64 a.e) ∧ w.cell? ⟨(ad.add (k * 5)).block, (ad.add (k * 5)).off + 2, none⟩ = some (.bool a.put)
      ∧ w.cell? ⟨(ad.add (k * 5)).block, (ad.add (k * 5)).off + 3, none⟩ = some (.int .i64 a.val) ∧ w.cell? ⟨(ad.add (k * 5)).block, (ad.add (k * 5)).off + 4, none⟩ = some (.int .i64 a.by_) := by
  obtain ⟨ad, e, hc⟩ := h.2 (by omega)
  have ha : l[k]? = some l[k] := List.getElem?_eq_getElem (by omega)
  have F := fun (j : Nat) (hj : j < 5) (u : Value) (hu : (gA l[k])[j]? = some u) => hc (k * 5 + j) u (by rw [flatMap_at gA 5 (fun _ => rfl) l k j _ ha hj]; exact hu)
  exact ⟨ad, l[k], e, ha, F 0 (by decide) _ rfl, cell_next (by decide) (F 1 (by decide) _ rfl), cell_next (by decide) (F 2 (by decide) _ rfl), cell_next (by decide) (F 3 (by decide) _ rfl), cell_next (by decide) (F 4 (by decide) _ rfl)⟩
set_option maxRecDepth 100000 in
set_option maxHeartbeats 2000000 in
theorem index_acts (b kd : Nat) (A : Option Addr) (n c : Nat) (l : List LA) (w : World) (hk : kd < 4) (hn : n ≤ 9) (h : Sl w 5 A n (l.flatMap gA)) (hl : l.length = n) (hm : ∀ a ∈ l, LMayC kd a) (hb : w.cell? ⟨b, 0, none⟩ = some (.int .i64 ((kd : Int) + 1))) :
    Calls Try.prog 47 #[.slice A n c, .func (.func 38) #[] #[.pointer (some ⟨b, 0, none⟩)]] w fun e w' => e = .returned (.int .i64 (-1)) ∧ Below w.heap.size w w' := by
  have H := hid h; clear h
  have HB := hid hb; clear hb
  have HM := hid hm; clear hm
  have HL := hid hl; clear hl
  go_enter Try.func47, Try.ntmps47
  go_wp2
  go_loopw [8] (fun i wr => ∃ k : Nat, k ≤ n ∧ i = .int .i64 k ∧ Hid (Below w.heap.size w wr)) (fun i _ => n - (intOf i).toNat)
  case atStart => exact ⟨0, Nat.zero_le _, rfl, hid (bnil _)⟩
  case round =>
    obtain ⟨k, hkn, rfl, HW⟩ := hrel
    by_cases hlt : k < n
    · obtain ⟨ad, a, rfl, ha, f0, f1, f2, f3, f4⟩ := acts_at (H.out.below HW.out) HL.out hlt
      have HMA := hid (HM.out a (List.mem_of_getElem? ha))
      clear ha
      have hb1 := cell_below HW.out HB.out
      have HB1 := hid hb1
      clear hb1
      have i1 : (k : Int) < (n : Int) := by omega
      go_wp2_with fail
      refine (may_odd9 b kd a _ hk HB1.out HMA.out).mono ?_
      rintro e w2 ⟨rfl, b2⟩
      go_wp2
      go_roundw
      case rel => exact ⟨k + 1, by omega, by go_num, hid (bgo HW.out b2)⟩
      case measure => simp [intOf]; omega
    · obtain rfl : k = n := by omega
      go_wp2
      go_ret
      exact ⟨rfl, HW.out⟩
theorem contains_acts (b kd : Nat) (A : Option Addr) (n c : Nat) (l : List LA) (w : World) (hk : kd < 4) (hn : n ≤ 9) (h : Sl w 5 A n (l.flatMap gA)) (hl : l.length = n) (hm : ∀ a ∈ l, LMayC kd a) (hb : w.cell? ⟨b, 0, none⟩ = some (.int .i64 ((kd : Int) + 1))) :
    Calls Try.prog 37 #[.slice A n c, .func (.func 38) #[] #[.pointer (some ⟨b, 0, none⟩)]] w fun e w' => e = .returned (.bool false) ∧ Below w.heap.size w w' := by
  go_enter Try.func37, Try.ntmps37
  go_wp2_with fail
  refine (index_acts b kd A n c l w hk hn h hl hm hb).mono ?_
  rintro e w2 ⟨rfl, b2⟩
  go_wp2
  go_ret
  exact ⟨rfl, b2⟩
set_option maxRecDepth 100000 in
set_option maxHeartbeats 2000000 in
theorem lin_may (kd : Nat) (A : Option Addr) (n c : Nat) (l : List LA) (w : World) (hk : kd < 4) (hn : n ≤ 9) (h : Sl w 5 A n (l.flatMap gA)) (hl : l.length = n) (hm : ∀ a ∈ l, LMayC kd a) :
    Calls Try.prog 22 #[.int .i64 ((kd : Int) + 1), .slice A n c] w fun e w' => e = .returned (.bool true) ∧ Below w.heap.size w w' := by
  have H := hid h; clear h
  have HM := hid hm; clear hm
  have HL := hid hl; clear hl
  have i1 : (n : Int) ≤ 9 := by omega
  have q1 : decide ((9 : Int) < (n : Int)) = false := by simp; omega
  have hmf : ∀ (fn : Fn) (first cap : Array Value) (w : World), (Instr.makeFunc fn first cap).run Try.prog w = .ok (.func fn first cap) w := fun _ _ _ _ => rfl
  have B1 := hid (Blk.new w 3 #[.int .i64 ((kd : Int) + 1)])
  have BW := hid (bnew (bnil w) (.cells #[.int .i64 ((kd : Int) + 1)] 3))
  go_enter Try.func22, Try.ntmps22
  go_wp2_with fail
  refine (lin_in _ 1 4 _ (by omega) (by omega)).mono ?_
  rintro e w2 ⟨rfl, rfl⟩
  go_wp2_with fail
  refine (contains_acts w.heap.size kd A n c l _ hk hn (H.out.below BW.out) HL.out HM.out (B1.out.cell 0)).mono ?_
  rintro e w2 ⟨rfl, b2⟩
  go_wp2_with fail
  go_ret
  exact ⟨rfl, bgo BW.out b2⟩

def CheckPost (w : World) (l : List LA) (o : LO) (e : Ending) (w' : World) : Prop := ∃ b : Bool, e = .returned (.tuple #[.bool b, .int .i64 0]) ∧ (b = true ↔ LinR l o) ∧ Below w.heap.size w w'
set_option maxRecDepth 100000 in
set_option maxHeartbeats 4000000 in
theorem lin_check (kd : Nat) (first : Int) (A : Option Addr) (n c : Nat) (l : List LA) (w : World) (hk : kd < 4) (hn : n ≤ 9) (h : Sl w 5 A n (l.flatMap gA)) (hl : l.length = n) (hm : ∀ a ∈ l, LMayC kd a) :
    Calls Try.prog 12 #[.int .i64 ((kd : Int) + 1), .int .i64 first, .slice A n c] w fun e w' => CheckPost w l (LO.init kd first) e w' := by
  have H := hid h; clear h
  have HM := hid hm; clear hm
  have HL := hid hl; clear hl
  have hmm := @run_makeMap Try.prog
  obtain ⟨v, hv⟩ : ∃ v : Value, v = (if kd = 0 then .iface 66 (.int .i64 first) else if kd = 1 then .iface 67 (.int .i64 first) else if kd = 2 then .iface 69 (.agg #[.bool false, .slice none 0 0]) else .iface 69 (.agg #[.bool true, .slice none 0 0])) := ⟨_, rfl⟩
  have HO : ∀ w' : World, ObjAt w' v (LO.init kd first) := by
    intro w'
    have hkk : kd = 0 ∨ kd = 1 ∨ kd = 2 ∨ kd = 3 := by omega
    rcases hkk with rfl | rfl | rfl | rfl
    · rw [hv]; rfl
    · rw [hv]; rfl
    · rw [hv]; exact ⟨none, 0, 0, rfl, Nat.le_refl _, by simp [maxLen], ISl.nil _ _⟩
    · rw [hv]; exact ⟨none, 0, 0, rfl, Nat.le_refl _, by simp [maxLen], ISl.nil _ _⟩
  have HOB := hid HO
  clear HO
  have HFND := hid (fun (w1 : World) (b1 : Below w.heap.size w w1) => show ∀ w2, w2 = (w1.alloc (.map #[] 0)).alloc (.cells #[.slice A n c, .map (some w1.heap.size)] 73) → Calls Try.prog 23 #[.pointer (some ⟨w1.heap.size + 1, 0, none⟩), .int .u64 0, v] w2 fun e w' => ∃ b : Bool, e = .returned (.bool b) ∧ (b = true ↔ LinR l (LO.init kd first)) ∧ Below w.heap.size w w' from by
    rintro w2 rfl
    have hs : (w1.alloc (.map #[] 0)).heap.size = w1.heap.size + 1 := by simp
    have bb : Below w1.heap.size w1 ((w1.alloc (.map #[] 0)).alloc (.cells #[.slice A n c, .map (some w1.heap.size)] 73)) := bnew (bnew (bnil w1) _) _
    have hkd : (LO.init kd first).size = 0 := by
      have hkk : kd = 0 ∨ kd = 1 ∨ kd = 2 ∨ kd = 3 := by omega
      rcases hkk with rfl | rfl | rfl | rfl <;> rfl
    refine (found_of (w1.heap.size + 1) A n c w1.heap.size kd l w1 9 0 (LO.init kd first) v (fun _ => []) 0 _ (by decide) {
      rest := by rw [restF_zero, HL.out]; exact hn
      seek := ⟨HL.out, hn, (by have := Blk.new (w1.alloc (.map #[] 0)) 73 #[.slice A n c, .map (some w1.heap.size)]; rw [hs] at this; exact this), (H.out.below b1).below bb⟩
      sl0 := H.out.below b1
      bel := bb
      memo := ⟨_, fun _ => .slice none 0 0, (MapV.made w1 Try.prog 75).alloc _, fun _ => rfl, fun _ => Ow.nil' bb _ _ _, fun _ _ _ _ h => by simp [Value.ownBlock] at h, fun _ => ⟨fun _ h => (by cases h), fun _ h => (by cases h), fun _ h => (by cases h)⟩, fun _ => by simp, Nat.le_refl _⟩
      room := by decide
      obj := HOB.out _
      kd := init_kd hk first
      size := by rw [hkd]; decide
      dead := fun _ _ _ h => (by cases h) }).mono ?_
    rintro e w' ⟨b, M', rfl, h1, _, h2, _⟩
    refine ⟨b, rfl, ?_, bgo b1 (bb.trans h2.bel)⟩
    rw [h1]
    unfold Fnd
    rw [restF_zero])
  have HV := hid hv
  clear hv
  go_enter Try.func12, Try.ntmps12
  go_wp2_with fail
  refine (lin_may kd A n c l _ hk hn H.out HL.out HM.out).mono ?_
  rintro e w1 ⟨rfl, b1⟩
  have B1 := hid b1
  clear b1
  have hkk : kd = 0 ∨ kd = 1 ∨ kd = 2 ∨ kd = 3 := by omega
  rcases hkk with rfl | rfl | rfl | rfl
  all_goals
    go_wp2_with fail
    have HF := HFND.out w1 B1.out _ rfl
    rw [HV.out] at HF
    refine HF.mono ?_
    rintro e w9 ⟨b, rfl, hb, b9⟩
    go_wp2_with fail
    refine bodyPost_ret (v := .tuple #[.bool b, .int .i64 0]) (by simp [results, Try.results12, go_sem]) rfl ?_
    exact ⟨b, rfl, hb, b9⟩
end Go.Proofs.Ytfdgklfkpofkeaa
