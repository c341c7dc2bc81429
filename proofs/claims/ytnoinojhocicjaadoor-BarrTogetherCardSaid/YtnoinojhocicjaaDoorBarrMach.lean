/-
  barographkeep.barrMachine: its walk. Written by gen_barrm.py.
-/
import Derived.Test.YtnoinojhocicjaaDoorMachG
import Derived.Test.YtnoinojhocicjaaDoorBarrLaw
import Derived.Test.YtnoinojhocicjaaDoorRwlMach
import Derived.Deep.RegionHeld
namespace Go.Proofs.YtnoinojhocicjaaDoor
open Go.RowKit
set_option linter.unusedVariables false

theorem mk_arr (n : Nat) : madeCells #[Value.slice none 0 0] n = arrN (fun _ => .slice none 0 0) n := by
  apply Array.ext'
  rw [Go.toList_madeCells_one]
  unfold arrN
  rw [List.map_const', List.length_range]
/-- the codes -/
def ksB (n work : Nat) (i : Nat) : List Op5 := if i = 0 then waitCode (n : Int) else lops (work * i) (work * i)
/-- the calls of thread j while t threads are full and the next one has r rounds -/
def bths (often work t r j : Nat) : List VCall := if j < t then brows work j often else if j = t then brows work j r else []
theorem bths_zero (often work : Nat) : bths often work 0 0 = fun _ => [] := by
  funext j
  unfold bths
  by_cases h : j = 0
  · subst h; rfl
  · rw [if_neg (by omega), if_neg h]
theorem bths_upd (often work t r : Nat) : upd (bths often work t r) t (bths often work t r t ++ bround work t) = bths often work t (r + 1) := by
  funext j
  unfold upd bths
  by_cases h : j = t
  · subst h; simp [brows]
  · simp [h]
theorem bths_next (often work t : Nat) : bths often work t often = bths often work (t + 1) 0 := by
  funext j
  unfold bths
  by_cases h : j < t
  · rw [if_pos h, if_pos (by omega)]
  · rw [if_neg h]
    by_cases h2 : j = t
    · rw [if_pos h2, if_pos (by omega)]
    · rw [if_neg h2, if_neg (by omega)]
      by_cases h3 : j = t + 1
      · rw [if_pos h3]; rfl
      · rw [if_neg h3]
theorem brows_len (work t : Nat) : ∀ r, (brows work t r).length ≤ 2 * r
  | 0 => by simp [brows]
  | r + 1 => by
    have := brows_len work t r
    have : (bround work t).length ≤ 2 := by unfold bround; split <;> simp
    rw [brows, List.length_append]; omega
theorem brows_mem (work t n : Nat) (ht : t < n) : ∀ (r : Nat) (c : VCall), c ∈ brows work t r → c.code < n + 1 ∧ c.args.length ≤ 8
  | 0, c, h => by cases h
  | r + 1, c, h => by
    rcases List.mem_append.1 h with h | h
    · exact brows_mem work t n ht r c h
    · unfold bround at h
      split at h
      · simp at h
        rcases h with rfl | rfl
        · exact ⟨by show 0 < n + 1; omega, by simp⟩
        · exact ⟨by show 1 + t < n + 1; omega, by simp⟩
      · simp at h
        subst h
        exact ⟨by show 0 < n + 1; omega, by simp⟩
theorem wait_sh {n : Nat} (h1 : 1 ≤ n) (h4 : n ≤ 4) : ∀ o ∈ waitCode (n : Int), OpSh (waitCode (n : Int)).length o := by
  intro o ho
  rcases (show n = 1 ∨ n = 2 ∨ n = 3 ∨ n = 4 by omega) with rfl | rfl | rfl | rfl
  all_goals
    simp only [waitCode, List.mem_cons, List.not_mem_nil, or_false] at ho
    rcases ho with rfl | rfl | rfl | rfl | rfl | rfl | rfl | rfl | rfl | rfl | rfl | rfl <;> exact ⟨by decide, by decide, by decide, by decide, by decide⟩
theorem barr_at {B : Nat} {w : World} {AC : Option Addr} {cC T n often work : Nat} {cv tv : Nat → Value} {av : Nat → List SV} (h : MG B w (n + 1) n (.slice AC (n + 1) cC) T cv (ksB n work) tv (fun j => brows work j often) av) (h1 : 1 ≤ n) (h4 : n ≤ 4) (ho : often ≤ 10) (hw : work ≤ 9) :
    MachAt w AC (n + 1) (some ⟨T, 0, none⟩) n (barrMach n often work) := by
  refine h.at_ rfl ?_ rfl (fun i hi => ?_) (fun j hj => ⟨by have := brows_len work j often; omega, brows_mem work j n hj often⟩)
  · unfold barrMach
    simp only
    rw [List.range_succ_eq_map, List.map_cons, List.map_map]
    congr 1
  · unfold ksB
    split
    · exact ⟨by rcases (show n = 1 ∨ n = 2 ∨ n = 3 ∨ n = 4 by omega) with rfl | rfl | rfl | rfl <;> decide, wait_sh h1 h4⟩
    · have hm : work * i ≤ 9 * 4 := Nat.mul_le_mul hw (by omega)
      exact ⟨by rw [lops_len (Nat.le_refl _)]; omega, lops_sh (work * i)⟩
abbrev gW : SV → List Value := fun s => [s.v]
theorem gW_one (x : SV) : ∀ u ∈ gW x, u.oneCell' = true := by intro u hu; simp at hu; subst hu; rfl
theorem gW_row (sv : Nat → SV) (l : List Nat) : (l.map sv).flatMap gW = l.map fun i => (sv i).v := by
  induction l with
  | nil => rfl
  | cons x l ih => rw [List.map_cons, List.flatMap_cons, ih]; rfl
theorem elmO4 : Elm Tryd.prog 24 33 1 24 := elm_of (z := .slice none 0 0) Tryd.underlying24 (by kernel_rfl) rfl (by decide)
theorem MBunG.frozX {W0 w : World} {g0 : Nat} {cs0 : Array Value} {R X : Nat} {cvv : Value} {T nc nt : Nat} {Wv : Value} {ws : List Int} {cv : Nat → Value} {ks : Nat → List Op5} {tv : Nat → Value} {th : Nat → List VCall} {av : Nat → List SV} (h : MBunG W0 w g0 cs0 R X cvv T nc nt Wv ws cv ks tv th av) {wA w6 : World}
    (hb : Below w.heap.size w wA) (hG : wA.grownBy w6 cvv.ownBlock) : w6.cell? ⟨X, 1, none⟩ = some cvv ∧ w6.frozen? ⟨X, 1, none⟩ = false ∧ ∀ v, (w6.setCell ⟨X, 1, none⟩ v).frozen? ⟨X, 1, none⟩ = false := by
  have hA := h.step hb
  have hM := Chg.of_grown hG (M := fun k => cvv.ownBlock = some k) (fun k e => e)
  have hX6 := hM.blk hA.hx (own_ne_blk hA.mn.co hA.hx (by decide))
  exact ⟨hX6.cell 1, hX6.frozen 1, fun v => (hX6.set_ 1 v).frozen 1⟩
theorem arg_own {B : Nat} (w : World) (hB : B ≤ w.heap.size) (c : Nat) (x : Int) (o : Obj) : ∀ (k : Nat) (d : VCall) (a : SV), ([⟨c, [x]⟩] : List VCall)[k]? = some d → ([⟨some ⟨w.heap.size, 0, none⟩, 1, 1⟩] : List SV)[k]? = some a → (((w.alloc (.cells #[.int .i64 x] 3)).alloc o).drew).ownsRow B 3 1 a.v d.args.length (d.args.flatMap gI) := by
  intro k d a hd ha
  match k, hd, ha with
  | 0, hd, ha =>
    injection hd with hd; injection ha with ha
    subst hd ha
    exact own_below (w := w.alloc (.cells #[.int .i64 x] 3)) ⟨rfl, .inr ⟨w.heap.size, 1, #[.int .i64 x], rfl, hB, Blk.new w _ _, Nat.le_refl _, by simp [maxLen], rfl, rfl⟩⟩ (bnew (bnil _) o).drew
  | k + 1, hd, ha => simp at hd
theorem gW_snoc (sv : Nat → SV) (n : Nat) (x : SV) : ((List.range n).map sv ++ [x]).flatMap gW = (List.range (n + 1)).map (upd (fun i => (sv i).v) n x.v) := by
  rw [List.flatMap_append, gW_row, List.range_succ, List.map_append]
  congr 1
  · refine List.map_congr_left fun i hi => ?_
    have := List.mem_range.1 hi
    rw [upd_ne _ _ _ _ (by omega)]
  · simp [upd_same, gW]
theorem row_of {B : Nat} {w6 : World} {E6 : Option Addr} {c6 n : Nat} {y : List SV} {sv : Nat → SV} {x : SV} (h : w6.ownsRow B 33 1 (.slice E6 y.length c6) y.length (y.flatMap gW)) (hy : (List.range n).map sv ++ [x] = y) (hl : y.length = n + 1) : w6.ownsRow B 33 1 (.slice E6 (n + 1) c6) (n + 1) ((List.range (n + 1)).map (upd (fun i => (sv i).v) n x.v)) := by
  rw [hl, ← hy, gW_snoc] at h
  exact h
theorem sv_upd (sv : Nat → SV) (n : Nat) (x : SV) : ∃ sv2 : Nat → SV, upd (fun i => (sv i).v) n x.v = (fun i => (sv2 i).v) ∧ sv2 n = x := by
  refine ⟨upd sv n x, ?_, upd_same _ _ _⟩
  funext i
  unfold upd
  split <;> rfl
theorem own_ops {B : Nat} (w : World) (hB : B ≤ w.heap.size) (m : Nat) (hm : m ≤ 36) : (w.alloc (.cells (((List.replicate m (⟨0, 0, 0, 0, 0⟩ : Op5)).flatMap gO).toArray) 81)).ownsRow B 81 5 (.slice (some ⟨w.heap.size, 0, none⟩) m m) (List.replicate m (⟨0, 0, 0, 0, 0⟩ : Op5)).length ((List.replicate m (⟨0, 0, 0, 0, 0⟩ : Op5)).flatMap gO) := by
  rw [List.length_replicate]
  refine ⟨by rw [flatMap_len gO 5 (fun _ => rfl), List.length_replicate], .inr ⟨w.heap.size, m, _, rfl, hB, Blk.new w _ _, Nat.le_refl _, by unfold maxLen; omega, ?_, ?_⟩⟩
  · rw [List.size_toArray, flatMap_len gO 5 (fun _ => rfl), List.length_replicate]
  · rw [List.take_of_length_le]; rw [flatMap_len gO 5 (fun _ => rfl), List.length_replicate]; omega
def BarrPost (w : World) (n often work : Nat) (e : Ending) (w' : World) : Prop :=
  ∃ (AW : Option Addr) (cW : Nat) (AC : Option Addr) (cC T : Nat) (cv tv : Nat → Value) (av : Nat → List SV), e = .returned (.tuple #[.agg #[.slice AW 1 cW, .slice AC (n + 1) cC, .slice (some ⟨T, 0, none⟩) n n], .bool true]) ∧
    w'.ownsRow w.heap.size 3 1 (.slice AW 1 cW) 1 (([0] : List Int).flatMap gI) ∧ MG w.heap.size w' (n + 1) n (.slice AC (n + 1) cC) T cv (ksB n work) tv (fun j => brows work j often) av ∧ Below w.heap.size w w'
set_option maxHeartbeats 8000000 in
set_option maxRecDepth 100000 in
theorem barr_machine (n often work : Nat) (w : World) (h1 : 1 ≤ n) (h4 : n ≤ 4) (hof : often ≤ 10) (hwk : work ≤ 9) (hT : STab w) :
    Calls Tryd.prog 30 #[.int .i64 (n : Int), .int .i64 (often : Int), .int .i64 (work : Int)] w fun e w' => BarrPost w n often work e w' := by
  have HT := hid hT
  clear hT
  go_enter Tryd.func30, Tryd.ntmps30
  go_wp2_with fail
  have HG := hid (Blk.new w 27 #[.slice none 0 0, .slice none 0 0, .slice none 0 0])
  have B0 := hid (bnew (bnil w) (.cells #[.slice none 0 0, .slice none 0 0, .slice none 0 0] 27))
  generalize World.alloc w (.cells #[.slice none 0 0, .slice none 0 0, .slice none 0 0] 27) = w0 at *
  refine (barr_words n w0 h1 h4).mono ?_
  rintro e w1 ⟨v1, rfl, o1⟩
  obtain ⟨AW, cW, rfl, hcW, hcW2⟩ := o1.form
  have O1 := hid o1
  clear o1
  go_wp2_with fail
  refine (barr_wait n w1 h1 h4).mono ?_
  rintro e w2 ⟨v2, rfl, o2⟩
  obtain ⟨A1, c1, rfl, hc1, hc12⟩ := o2.form
  have O2 := hid o2
  clear o2
  rw [show (waitCode (n : Int)).length = 12 from rfl] at *
  have B2 := hid (bgo (bgo B0.out O1.out.below) O2.out.below)
  have HG2 := hid (HG.out.below' (bgo O1.out.below O2.out.below))
  have HW2 := hid (own_below (own_lower O1.out.own B0.out.size) O2.out.below)
  have HC2 := hid (own_lower O2.out.own (bgo B0.out O1.out.below).size)
  clear HG B0 O1 O2
  obtain ⟨Cb, hCb⟩ : ∃ Cb, w2.heap.size = Cb := ⟨_, rfl⟩
  have hmk := mkT (w2.alloc (.cells #[.slice A1 12 c1] 33)) n (by omega) (arrN (fun _ => .slice none 0 0) n) (mk_arr n)
  have HCB := hid ((blkN w2 33 #[.slice A1 12 c1] Cb hCb).below' (bnew (bnew (bnil _) (.cells (arrN (fun _ => .slice none 0 0) n) 44)) (.cells #[.slice AW 1 cW, .slice (some ⟨Cb, 0, none⟩) 1 1, .slice (some ⟨Cb + 1, 0, none⟩) n n] 27)))
  have HTB := hid ((blkN (w2.alloc (.cells #[.slice A1 12 c1] 33)) 44 (arrN (fun _ => .slice none 0 0) n) (Cb + 1) (by rw [World.size_alloc, hCb])).below' (bnew (bnil _) (.cells #[.slice AW 1 cW, .slice (some ⟨Cb, 0, none⟩) 1 1, .slice (some ⟨Cb + 1, 0, none⟩) n n] 27)))
  have HXB := hid (blkN ((w2.alloc (.cells #[.slice A1 12 c1] 33)).alloc (.cells (arrN (fun _ => .slice none 0 0) n) 44)) 27 #[.slice AW 1 cW, .slice (some ⟨Cb, 0, none⟩) 1 1, .slice (some ⟨Cb + 1, 0, none⟩) n n] (Cb + 2) (by rw [World.size_alloc, World.size_alloc, hCb]))
  have B2E := hid (bnew (bnew (bnew (bnil w2) (.cells #[.slice A1 12 c1] 33)) (.cells (arrN (fun _ => .slice none 0 0) n) 44)) (.cells #[.slice AW 1 cW, .slice (some ⟨Cb, 0, none⟩) 1 1, .slice (some ⟨Cb + 1, 0, none⟩) n n] 27))
  go_upto_region 4 with fail
  have hBC : w.heap.size ≤ Cb := by rw [← hCb]; exact B2.out.size
  have BW := hid (bgo B2.out B2E.out)
  have HGE := hid (HG2.out.below' B2E.out)
  have HWE := hid (own_below HW2.out B2E.out)
  have HCE := hid (own_below HC2.out B2E.out)
  have hgX : w.heap.size ≠ Cb + 2 := by omega
  clear hmk hCb B2 HG2 HW2 HC2 B2E
  generalize World.alloc (World.alloc (World.alloc w2 _) _) _ = wE at *
  obtain ⟨T, hT⟩ : ∃ T, Cb + 1 = T := ⟨_, rfl⟩
  rw [hT] at HTB HXB ⊢
  obtain ⟨X, hX⟩ : ∃ X, T + 1 = X := ⟨_, rfl⟩
  rw [hX]
  rw [show Cb + 2 = X by omega] at HXB hgX
  have hXw : w.heap.size ≤ X := by omega
  have hTw : w.heap.size ≤ T := by omega
  have BU := hid (show MBunG w wE w.heap.size nil3 w.heap.size X (.slice (some ⟨Cb, 0, none⟩) 1 1) T 1 n (.slice AW 1 cW) ([0] : List Int) (fun _ => (⟨A1, 12, c1⟩ : SV).v) (ksB n work) (fun _ => .slice none 0 0) (fun _ => []) (fun _ => []) from
    ⟨BW.out, HGE.out, HGE.out, HXB.out, HWE.out, MG.start (v := fun _ => undef) hTw ⟨rfl, .inr ⟨Cb, 1, _, rfl, hBC, HCB.out, Nat.le_refl _, by simp [maxLen], rfl, rfl⟩⟩ (fun i j hi hj hij => absurd (show i = j by omega) hij) HTB.out (fun i hi => (by obtain rfl : i = 0 := (by omega); exact HCE.out))⟩)
  clear BW HGE HXB HWE HCB HTB HCE hT hX hBC
  go_wp2_with fail
  go_loopw [13] (fun v wx => ∃ (t : Nat) (cvv : Value) (sv : Nat → SV) (tv : Nat → Value) (av : Nat → List SV), t ≤ n ∧ v = .int .i64 t ∧ Hid (MBunG w wx w.heap.size nil3 w.heap.size X cvv T (t + 1) n (.slice AW 1 cW) ([0] : List Int) (fun i => (sv i).v) (ksB n work) tv (bths often work t 0) av)) (fun v _ => n - (intOf v).toNat)
  case atStart => exact ⟨0, _, fun _ => ⟨A1, 12, c1⟩, _, _, Nat.zero_le _, rfl, (by rw [bths_zero]; exact BU)⟩
  case round =>
    clear BU
    obtain ⟨t, cvv, sv, tv, av, ht, rfl, HX⟩ := hrel
    by_cases hlt : t < n
    · have j1 : (t : Int) < (n : Int) := by omega
      obtain ⟨m, hm⟩ : ∃ m, work * (t + 1) = m := ⟨_, rfl⟩
      have HMM := hid hm
      have hm36 : m ≤ 36 := by rw [← hm]; exact Nat.le_trans (Nat.mul_le_mul hwk (show t + 1 ≤ 4 by omega)) (by decide)
      have em : (work : Int) * ((t : Int) + 1) = (m : Int) := by rw [← hm]; simp
      have ew1 : IntKind.i64.wrap ((t : Int) + 1) = (t : Int) + 1 := IntWalk.i64_in _ (by omega)
      have ew : IntKind.i64.wrap ((work : Int) * ((t : Int) + 1)) = (m : Int) := by rw [em]; exact IntWalk.i64_in _ (by omega)
      have ewm : IntKind.i64.wrap (m : Int) = (m : Int) := IntWalk.i64_in _ (by omega)
      clear hm
      obtain ⟨AC, cC, hcvv, hcC1, hcC2⟩ := own_form HX.out.mn.co
      subst hcvv
      have c1x : wr.cell? ⟨X, 1, none⟩ = some (.slice AC (t + 1) cC) := HX.out.hx.cell 1
      have f1x := HX.out.hx.frozen 1
      have HRO := hid (show ∀ w', Below wr.heap.size wr w' → w'.ownsRow w.heap.size 33 1 (.slice AC (t + 1) cC) ((List.range (t + 1)).map sv).length (((List.range (t + 1)).map sv).flatMap gW) from fun w' hb => by
        have h := own_below HX.out.mn.co hb
        rw [gW_row, List.length_map, List.length_range]; exact h)
      obtain ⟨y, hy⟩ : ∃ y, (List.range (t + 1)).map sv ++ [(⟨some ⟨wr.heap.size, 0, none⟩, m, m⟩ : SV)] = y := ⟨_, rfl⟩
      have HYE := hid hy
      have HYL := hid (show y.length = t + 2 by rw [← hy, List.length_append, List.length_map, List.length_range]; rfl)
      have hmk : ∀ w' : World, (Instr.makeSlice 33 (.int .i64 (m : Int)) (.int .i64 (m : Int))).run Tryd.prog w' = .ok (.slice (some ⟨w'.heap.size, 0, none⟩) m m) (w'.alloc (.cells (((List.replicate m (⟨0, 0, 0, 0, 0⟩ : Op5)).flatMap gO).toArray) 81)) := fun w' => mkOps w' m (by omega)
      have ltX := HX.out.hx.lt
      clear hy
      unfold maxLen at hcC2
      go_upto_region 7 with fail
      go_cut [] from 37 to 99 (fun wx => ∃ (E6 : Option Addr) (c6 : Nat) (sv2 : Nat → SV) (bk : Nat), Hid (MBunG w wx w.heap.size nil3 w.heap.size X (.slice E6 (t + 2) c6) T (t + 1 + 1) n (.slice AW 1 cW) ([0] : List Int) (fun i => (sv2 i).v) (upd (ksB n work) (t + 1) (lops 0 m)) tv (bths often work t 0) av) ∧ Hid (sv2 (t + 1) = ⟨some ⟨bk, 0, none⟩, m, m⟩))
      case first =>
        refine wp_region_held_drew (S := (fun w' => w'.frozen? ⟨X, 1, none⟩ = false)) (by kernel_rfl) ?_ (fun hHeld => ?_)
        · (try dsimp only); (first | assumption | exact f1x | exact HZ.1 | exact HZ.2 _ | (refine frozen_below ?_ c1x f1x; (repeat (first | exact bnil _ | refine Below.drew ?_ | refine bnew ?_ _))))
        refine wpAnyH_take (i := 0) (oi := ⟨some 37, _, _, _, _, _⟩) (v := ?_) rfl (by kernel_rfl) (by kernel_rfl) (by kernel_rfl) (fun _ _ _ h => h) (Or.inl ⟨by rfl, ?_⟩) (by assumption) ?_
        rotate_left
        · intro w hSw; (try dsimp only at hSw); go_simp <;> with_reducible rfl
        try simp only [Act.put, List.setIfInBounds_toArray, List.set_cons_zero, List.set_cons_succ]
        refine wpAnyH_take (i := 2) (oi := ⟨some 39, _, _, _, _, _⟩) (v := ?_) rfl (by kernel_rfl) (by kernel_rfl) (by kernel_rfl) (fun _ _ _ h => h) (Or.inl ⟨by rfl, ?_⟩) (by assumption) ?_
        rotate_left
        · intro w hSw; (try dsimp only at hSw); go_simp <;> with_reducible rfl
        try simp only [Act.put, List.setIfInBounds_toArray, List.set_cons_zero, List.set_cons_succ]
        refine wpAnyH_take (i := 3) (oi := ⟨some 40, _, _, _, _, _⟩) (v := ?_) rfl (by kernel_rfl) (by kernel_rfl) (by kernel_rfl) (fun _ _ _ h => h) (Or.inl ⟨by rfl, ?_⟩) (by assumption) ?_
        rotate_left
        · intro w hSw; (try dsimp only at hSw); go_simp <;> with_reducible rfl
        try simp only [Act.put, List.setIfInBounds_toArray, List.set_cons_zero, List.set_cons_succ]
        refine wpAnyH_take (i := 4) (oi := ⟨some 41, _, _, _, _, _⟩) (v := ?_) rfl (by kernel_rfl) (by kernel_rfl) (by kernel_rfl) (fun _ _ _ h => h) (Or.inl ⟨by rfl, ?_⟩) (by assumption) ?_
        rotate_left
        · intro w hSw; (try dsimp only at hSw); go_simp <;> with_reducible rfl
        try simp only [Act.put, List.setIfInBounds_toArray, List.set_cons_zero, List.set_cons_succ]
        refine wpAnyH_take (i := 5) (oi := ⟨some 42, _, _, _, _, _⟩) (v := ?_) rfl (by kernel_rfl) (by kernel_rfl) (by kernel_rfl) (fun _ _ _ h => h) (Or.inl ⟨by rfl, ?_⟩) (by assumption) ?_
        rotate_left
        · intro w hSw; (try dsimp only at hSw); go_simp <;> with_reducible rfl
        try simp only [Act.put, List.setIfInBounds_toArray, List.set_cons_zero, List.set_cons_succ]
        refine wpAnyH_ready (rs := [1, 6]) (by kernel_rfl) (by simp) ?_
        refine AllReadyH.cons (o := ⟨some 38, _, _, _, _, _⟩) rfl (fun K hK => ?_) ?_
        go_simp
        refine hK.out _ _ ?_ (fun hHeld => ?_)
        · (try dsimp only); (first | assumption | exact f1x | exact HZ.1 | exact HZ.2 _ | (refine frozen_below ?_ c1x f1x; (repeat (first | exact bnil _ | refine Below.drew ?_ | refine bnew ?_ _))))
        clear hK K
        try simp only [Act.put, List.setIfInBounds_toArray, List.set_cons_zero, List.set_cons_succ]
        refine wpAnyH_ready (rs := [6]) (by kernel_rfl) (by simp) ?_
        refine AllReadyH.cons (o := ⟨some 43, _, _, _, _, _⟩) rfl (fun K hK => ?_) AllReadyH.nil
        go_simp
        refine hK.out _ _ ?_ (fun hHeld => ?_)
        · (try dsimp only); (first | assumption | exact f1x | exact HZ.1 | exact HZ.2 _ | (refine frozen_below ?_ c1x f1x; (repeat (first | exact bnil _ | refine Below.drew ?_ | refine bnew ?_ _))))
        clear hK K
        try simp only [Act.put, List.setIfInBounds_toArray, List.set_cons_zero, List.set_cons_succ]
        refine wpAnyH_ready (rs := [7]) (by kernel_rfl) (by simp) ?_
        refine AllReadyH.cons (o := ⟨some 44, _, _, _, _, _⟩) rfl (fun K hK => ?_) AllReadyH.nil
        go_simp
        refine hK.out _ _ ?_ (fun hHeld => ?_)
        · (try dsimp only); (first | assumption | exact f1x | exact HZ.1 | exact HZ.2 _ | (refine frozen_below ?_ c1x f1x; (repeat (first | exact bnil _ | refine Below.drew ?_ | refine bnew ?_ _))))
        clear hK K
        try simp only [Act.put, List.setIfInBounds_toArray, List.set_cons_zero, List.set_cons_succ]
        refine wpAnyH_ready (rs := [8]) (by kernel_rfl) (by simp) ?_
        refine AllReadyH.cons (o := ⟨some 45, _, _, _, _, _⟩) rfl (fun K hK => ?_) AllReadyH.nil
        (refine step_appC elmO4 gW_one rfl (.tmp 38) (.tmp 44) rfl (.slice AC (t + 1) cC) ((List.range (t + 1)).map sv) rfl (HRO.out _ (bnew (bnew (bnil _) _) _).drew) [(⟨some ⟨wr.heap.size, 0, none⟩, m, m⟩ : SV)] y HYE rfl (Sl.drew (Sl.fresh' _ #[_] 33 1 1 _ (by simp) rfl)) rfl (by rw [HYL.out]; simp only [maxLen]; omega) (by rw [HYL.out]; omega) (Nat.le_trans HX.out.below.size (bnew (bnew (bnil _) _) _).drew.size) ?_; intro E6 c6 w6 hc6 hc7 HN6 HG6 HO6; obtain ⟨HZc, HZ⟩ := HX.out.frozX (bnew (bnew (bnil _) _) _).drew HG6.out)
        refine hK.out _ _ ?_ (fun hHeld => ?_)
        · (try dsimp only); (first | assumption | exact f1x | exact HZ.1 | exact HZ.2 _ | (refine frozen_below ?_ c1x f1x; (repeat (first | exact bnil _ | refine Below.drew ?_ | refine bnew ?_ _))))
        clear hK K
        try simp only [Act.put, List.setIfInBounds_toArray, List.set_cons_zero, List.set_cons_succ]
        refine wpAnyH_take (i := 9) (oi := ⟨some 46, _, _, _, _, _⟩) (v := ?_) rfl (by kernel_rfl) (by kernel_rfl) (by kernel_rfl) (fun _ _ _ h => h) (Or.inl ⟨by rfl, ?_⟩) (by assumption) ?_
        rotate_left
        · intro w hSw; (try dsimp only at hSw); go_simp <;> with_reducible rfl
        try simp only [Act.put, List.setIfInBounds_toArray, List.set_cons_zero, List.set_cons_succ]
        refine wpAnyH_ready (rs := [10]) (by kernel_rfl) (by simp) ?_
        refine AllReadyH.cons (o := ⟨none, _, _, _, _, _⟩) rfl (fun K hK => ?_) AllReadyH.nil
        go_simp
        refine hK.out _ _ ?_ (fun hHeld => ?_)
        · (try dsimp only); (first | assumption | exact f1x | exact HZ.1 | exact HZ.2 _ | (refine frozen_below ?_ c1x f1x; (repeat (first | exact bnil _ | refine Below.drew ?_ | refine bnew ?_ _))))
        clear hK K
        try dsimp only [Act.put]
        refine wpAnyH_done (by kernel_rfl) ?_ _
        rotate_left
        refine AllReadyH.cons (o := ⟨some 43, _, _, _, _, _⟩) rfl (fun K hK => ?_) AllReadyH.nil
        go_simp
        refine hK.out _ _ ?_ (fun hHeld => ?_)
        · (try dsimp only); (first | assumption | exact f1x | exact HZ.1 | exact HZ.2 _ | (refine frozen_below ?_ c1x f1x; (repeat (first | exact bnil _ | refine Below.drew ?_ | refine bnew ?_ _))))
        clear hK K
        try simp only [Act.put, List.setIfInBounds_toArray, List.set_cons_zero, List.set_cons_succ]
        refine wpAnyH_ready (rs := [1, 7]) (by kernel_rfl) (by simp) ?_
        refine AllReadyH.cons (o := ⟨some 38, _, _, _, _, _⟩) rfl (fun K hK => ?_) ?_
        go_simp
        refine hK.out _ _ ?_ (fun hHeld => ?_)
        · (try dsimp only); (first | assumption | exact f1x | exact HZ.1 | exact HZ.2 _ | (refine frozen_below ?_ c1x f1x; (repeat (first | exact bnil _ | refine Below.drew ?_ | refine bnew ?_ _))))
        clear hK K
        try simp only [Act.put, List.setIfInBounds_toArray, List.set_cons_zero, List.set_cons_succ]
        refine wpAnyH_ready (rs := [7]) (by kernel_rfl) (by simp) ?_
        refine AllReadyH.cons (o := ⟨some 44, _, _, _, _, _⟩) rfl (fun K hK => ?_) AllReadyH.nil
        go_simp
        refine hK.out _ _ ?_ (fun hHeld => ?_)
        · (try dsimp only); (first | assumption | exact f1x | exact HZ.1 | exact HZ.2 _ | (refine frozen_below ?_ c1x f1x; (repeat (first | exact bnil _ | refine Below.drew ?_ | refine bnew ?_ _))))
        clear hK K
        try simp only [Act.put, List.setIfInBounds_toArray, List.set_cons_zero, List.set_cons_succ]
        refine wpAnyH_ready (rs := [8]) (by kernel_rfl) (by simp) ?_
        refine AllReadyH.cons (o := ⟨some 45, _, _, _, _, _⟩) rfl (fun K hK => ?_) AllReadyH.nil
        (refine step_appC elmO4 gW_one rfl (.tmp 38) (.tmp 44) rfl (.slice AC (t + 1) cC) ((List.range (t + 1)).map sv) rfl (HRO.out _ (bnew (bnew (bnil _) _) _).drew) [(⟨some ⟨wr.heap.size, 0, none⟩, m, m⟩ : SV)] y HYE rfl (Sl.drew (Sl.fresh' _ #[_] 33 1 1 _ (by simp) rfl)) rfl (by rw [HYL.out]; simp only [maxLen]; omega) (by rw [HYL.out]; omega) (Nat.le_trans HX.out.below.size (bnew (bnew (bnil _) _) _).drew.size) ?_; intro E6 c6 w6 hc6 hc7 HN6 HG6 HO6; obtain ⟨HZc, HZ⟩ := HX.out.frozX (bnew (bnew (bnil _) _) _).drew HG6.out)
        refine hK.out _ _ ?_ (fun hHeld => ?_)
        · (try dsimp only); (first | assumption | exact f1x | exact HZ.1 | exact HZ.2 _ | (refine frozen_below ?_ c1x f1x; (repeat (first | exact bnil _ | refine Below.drew ?_ | refine bnew ?_ _))))
        clear hK K
        try simp only [Act.put, List.setIfInBounds_toArray, List.set_cons_zero, List.set_cons_succ]
        refine wpAnyH_take (i := 9) (oi := ⟨some 46, _, _, _, _, _⟩) (v := ?_) rfl (by kernel_rfl) (by kernel_rfl) (by kernel_rfl) (fun _ _ _ h => h) (Or.inl ⟨by rfl, ?_⟩) (by assumption) ?_
        rotate_left
        · intro w hSw; (try dsimp only at hSw); go_simp <;> with_reducible rfl
        try simp only [Act.put, List.setIfInBounds_toArray, List.set_cons_zero, List.set_cons_succ]
        refine wpAnyH_ready (rs := [10]) (by kernel_rfl) (by simp) ?_
        refine AllReadyH.cons (o := ⟨none, _, _, _, _, _⟩) rfl (fun K hK => ?_) AllReadyH.nil
        go_simp
        refine hK.out _ _ ?_ (fun hHeld => ?_)
        · (try dsimp only); (first | assumption | exact f1x | exact HZ.1 | exact HZ.2 _ | (refine frozen_below ?_ c1x f1x; (repeat (first | exact bnil _ | refine Below.drew ?_ | refine bnew ?_ _))))
        clear hK K
        try dsimp only [Act.put]
        refine wpAnyH_done (by kernel_rfl) ?_ _
        rotate_left
        refine AllReadyH.cons (o := ⟨some 44, _, _, _, _, _⟩) rfl (fun K hK => ?_) AllReadyH.nil
        go_simp
        refine hK.out _ _ ?_ (fun hHeld => ?_)
        · (try dsimp only); (first | assumption | exact f1x | exact HZ.1 | exact HZ.2 _ | (refine frozen_below ?_ c1x f1x; (repeat (first | exact bnil _ | refine Below.drew ?_ | refine bnew ?_ _))))
        clear hK K
        try simp only [Act.put, List.setIfInBounds_toArray, List.set_cons_zero, List.set_cons_succ]
        refine wpAnyH_ready (rs := [1]) (by kernel_rfl) (by simp) ?_
        refine AllReadyH.cons (o := ⟨some 38, _, _, _, _, _⟩) rfl (fun K hK => ?_) AllReadyH.nil
        go_simp
        refine hK.out _ _ ?_ (fun hHeld => ?_)
        · (try dsimp only); (first | assumption | exact f1x | exact HZ.1 | exact HZ.2 _ | (refine frozen_below ?_ c1x f1x; (repeat (first | exact bnil _ | refine Below.drew ?_ | refine bnew ?_ _))))
        clear hK K
        try simp only [Act.put, List.setIfInBounds_toArray, List.set_cons_zero, List.set_cons_succ]
        refine wpAnyH_ready (rs := [8]) (by kernel_rfl) (by simp) ?_
        refine AllReadyH.cons (o := ⟨some 45, _, _, _, _, _⟩) rfl (fun K hK => ?_) AllReadyH.nil
        (refine step_appC elmO4 gW_one rfl (.tmp 38) (.tmp 44) rfl (.slice AC (t + 1) cC) ((List.range (t + 1)).map sv) rfl (HRO.out _ (bnew (bnew (bnil _) _) _).drew) [(⟨some ⟨wr.heap.size, 0, none⟩, m, m⟩ : SV)] y HYE rfl (Sl.drew (Sl.fresh' _ #[_] 33 1 1 _ (by simp) rfl)) rfl (by rw [HYL.out]; simp only [maxLen]; omega) (by rw [HYL.out]; omega) (Nat.le_trans HX.out.below.size (bnew (bnew (bnil _) _) _).drew.size) ?_; intro E6 c6 w6 hc6 hc7 HN6 HG6 HO6; obtain ⟨HZc, HZ⟩ := HX.out.frozX (bnew (bnew (bnil _) _) _).drew HG6.out)
        refine hK.out _ _ ?_ (fun hHeld => ?_)
        · (try dsimp only); (first | assumption | exact f1x | exact HZ.1 | exact HZ.2 _ | (refine frozen_below ?_ c1x f1x; (repeat (first | exact bnil _ | refine Below.drew ?_ | refine bnew ?_ _))))
        clear hK K
        try simp only [Act.put, List.setIfInBounds_toArray, List.set_cons_zero, List.set_cons_succ]
        refine wpAnyH_take (i := 9) (oi := ⟨some 46, _, _, _, _, _⟩) (v := ?_) rfl (by kernel_rfl) (by kernel_rfl) (by kernel_rfl) (fun _ _ _ h => h) (Or.inl ⟨by rfl, ?_⟩) (by assumption) ?_
        rotate_left
        · intro w hSw; (try dsimp only at hSw); go_simp <;> with_reducible rfl
        try simp only [Act.put, List.setIfInBounds_toArray, List.set_cons_zero, List.set_cons_succ]
        refine wpAnyH_ready (rs := [10]) (by kernel_rfl) (by simp) ?_
        refine AllReadyH.cons (o := ⟨none, _, _, _, _, _⟩) rfl (fun K hK => ?_) AllReadyH.nil
        go_simp
        refine hK.out _ _ ?_ (fun hHeld => ?_)
        · (try dsimp only); (first | assumption | exact f1x | exact HZ.1 | exact HZ.2 _ | (refine frozen_below ?_ c1x f1x; (repeat (first | exact bnil _ | refine Below.drew ?_ | refine bnew ?_ _))))
        clear hK K
        try dsimp only [Act.put]
        refine wpAnyH_done (by kernel_rfl) ?_ _
        rotate_left
        all_goals
          have HNEW := hid (HX.out.code (cvv' := .slice E6 (t + 2) c6) (v := .slice (some ⟨wr.heap.size, 0, none⟩) m m) (k := lops 0 m) (bnew (bnew (bnil _) _) _).drew (by rw [lops_zero]; exact own_below (own_ops wr HX.out.below.size m hm36) (bnew (bnil _) _).drew) (fun b hb => by injection hb with hb; subst hb; exact Nat.le_refl _) HG6.out (row_of HN6.out HYE.out HYL.out) hgX hgX hXw)
          obtain ⟨sv2, hsv2, hsv3⟩ := sv_upd sv (t + 1) ⟨some ⟨wr.heap.size, 0, none⟩, m, m⟩
          rw [show (Value.slice (some ⟨wr.heap.size, 0, none⟩) m m) = (⟨some ⟨wr.heap.size, 0, none⟩, m, m⟩ : SV).v from rfl, hsv2] at HNEW
          rw [HYL.out]
          have HSV := hid hsv3
          clear HG6 HO6 HN6 hsv2 hsv3 HRO c1x f1x hmk HYE HX
          go_wp2
          go_meet
          exact ⟨E6, c6, sv2, _, HNEW, HSV⟩
      case rest =>
        clear HRO c1x f1x hmk HYE HYL HX ltX
        clear y
        obtain ⟨E6, c6, sv2, bk, HNEW, HSV⟩ := hcut
        obtain ⟨wB, hwB⟩ : ∃ w2, w2 = wc := ⟨_, rfl⟩
        subst hwB
        go_wp2_with fail
        go_loopw [14] (fun v wx => ∃ (i : Nat), i ≤ m ∧ v = .int .i64 i ∧ Hid (MBunG w wx w.heap.size nil3 w.heap.size X (.slice E6 (t + 2) c6) T (t + 1 + 1) n (.slice AW 1 cW) ([0] : List Int) (fun i => (sv2 i).v) (upd (ksB n work) (t + 1) (lops i m)) tv (bths often work t 0) av)) (fun v _ => m - (intOf v).toNat)
        case atStart => exact ⟨0, Nat.zero_le _, rfl, HNEW⟩
        case round =>
          clear HNEW
          obtain ⟨i, hi, rfl, HX⟩ := hrel
          by_cases h5 : i < m
          · have i5 : (i : Int) < (m : Int) := by omega
            have y1 : wr.cell? ⟨X, 1, none⟩ = some (.slice E6 (t + 2) c6) := HX.out.hx.cell 1
            obtain ⟨Cb2, c8, e8, _, hcl8⟩ := own_at HX.out.mn.co (by omega)
            injection e8 with e8 e9 e10
            subst e8
            have y2 : wr.cell? ⟨Cb2, t + 1, none⟩ = some (.slice (some ⟨bk, 0, none⟩) m m) := by
              have h := hcl8 (t + 1) _ (by rw [List.getElem?_map, List.getElem?_range (by omega : t + 1 < t + 1 + 1)]; rfl)
              rw [h]; simp only; rw [HSV.out]
            have ho := HX.out.mn.os (t + 1) (by omega)
            rw [HSV.out, upd_same] at ho
            have hf : ∀ j, wr.frozen? ⟨bk, j, none⟩ = false := fun j => by
              rcases ho.2 with ⟨h0, _⟩ | ⟨g, cap, cur, hv, hb, hh, _⟩
              · cases h0
              · injection hv with hv; injection hv with hv; injection hv with hv
                subst hv
                exact Blk.frozen hh j
            obtain ⟨bb, c9, e9', _, hcl9⟩ := own_at ho (by show 0 < (lops i m).length; rw [lops_len hi]; omega)
            have e9 : bk = bb := by injection e9' with e9'; injection e9' with e9'; injection e9'
            subst e9
            have hc : ∀ j, j < 5 → ∃ u, wr.cell? ⟨bk, i * 5 + j, none⟩ = some u := fun j hj => by
              have hl : i * 5 + j < ((lops i m).flatMap gO).length := by
                rw [flatMap_len gO 5 (fun _ => rfl), lops_len hi]; omega
              exact ⟨_, hcl9 _ _ (List.getElem?_eq_getElem hl)⟩
            obtain ⟨u0, z0⟩ := hc 0 (by decide)
            obtain ⟨u1, z1⟩ := hc 1 (by decide)
            obtain ⟨u2, z2⟩ := hc 2 (by decide)
            obtain ⟨u3, z3⟩ := hc 3 (by decide)
            obtain ⟨u4, z4⟩ := hc 4 (by decide)
            rw [Nat.add_zero] at z0
            have g0' := hf (i * 5)
            have g1 := hf (i * 5 + 1)
            have g2 := hf (i * 5 + 2)
            have g3 := hf (i * 5 + 3)
            have g4 := hf (i * 5 + 4)
            have HN := hid (HX.out.op5 (i0 := t + 1) (bk := bk) (n := m) (c := m) (k := i) (by omega) (by show (sv2 (t + 1)).v = _; rw [HSV.out]) (by rw [upd_same]; exact lops_len hi) h5 ⟨1, 0, (i : Int), 0, 0⟩)
            rw [upd_same, upd_upd, lops_set h5] at HN
            have it2 : (t : Int) + 1 < (t : Int) + 2 := by omega
            clear hf hc hcl8 hcl9 ho e9' e9 e10 HX
            go_wp2_with fail
            go_roundw
            case rel => exact ⟨i + 1, h5, by go_num, HN⟩
            case measure => simp [intOf]; omega
          · obtain rfl : i = m := by omega
            have i5 : ¬ (i : Int) < (i : Int) := by omega
            obtain ⟨m, hmi⟩ : ∃ m, m = i := ⟨_, rfl⟩
            subst hmi
            have HX := hid (HX.out.codes (ks' := ksB n work) (fun j hj => by
              by_cases e : j = t + 1
              · subst e; rw [upd_same]; unfold ksB; rw [if_neg (by omega), HMM.out]
              · rw [upd_ne _ _ _ _ e]))
            go_wp2_with fail
            go_loopw [15] (fun v wx => ∃ (r : Nat) (tv : Nat → Value) (av : Nat → List SV), r ≤ often ∧ v = .int .i64 r ∧ Hid (MBunG w wx w.heap.size nil3 w.heap.size X (.slice E6 (t + 2) c6) T (t + 1 + 1) n (.slice AW 1 cW) ([0] : List Int) (fun i => (sv2 i).v) (ksB n work) tv (bths often work t r) av)) (fun v _ => often - (intOf v).toNat)
            case atStart => exact ⟨0, tv, av, Nat.zero_le _, rfl, HX⟩
            case round =>
              clear HX
              obtain ⟨r, tv, av, hr, rfl, HX⟩ := hrel
              by_cases h6 : r < often
              · have i6 : (r : Int) < (often : Int) := by omega
                have HLN := hid (show (bths often work t r t).length ≤ 18 by unfold bths; rw [if_neg (Nat.lt_irrefl _), if_pos rfl]; have := brows_len work t r; omega)
                go_upto_region 15 with fail
                obtain ⟨Aj, cj, hAj, HR0⟩ := HX.out.row hlt
                obtain ⟨L, hL⟩ : ∃ L, ((bths often work t r) t).length = L := ⟨_, rfl⟩
                rw [hL] at hAj HR0
                have hL18 : L ≤ 19 := by rw [← hL]; have := HLN.out; omega
                obtain ⟨y, hy⟩ : ∃ y, ((bths often work t r) t).zip (av t) ++ [((⟨0, [(t : Int)]⟩ : VCall), (⟨some ⟨wr.heap.size, 0, none⟩, 1, 1⟩ : SV))] = y := ⟨_, rfl⟩
                have HYE := hid hy
                have HYL := hid (show y.length = L + 1 by rw [← hy, List.length_append, HR0.len]; rfl)
                have HR := hid HR0
                have HAJ := hid hAj
                have c2 := HR.out.c2; have c3 := HR.out.c3; have f3 := HR.out.f3; have hcj := HR.out.hcj; have hcm := HR.out.hcm
                unfold maxLen at hcm
                clear hy HR0 hAj hL
                have ltT := World.block_lt_of_cell? wr _ c3
                have ltX := World.block_lt_of_cell? wr _ c2
                go_cut [] from 70 to 99 (fun wx => ∃ (tv2 : Nat → Value) (av2 : Nat → List SV), Hid (MBunG w wx w.heap.size nil3 w.heap.size X (.slice E6 (t + 2) c6) T (t + 1 + 1) n (.slice AW 1 cW) ([0] : List Int) (fun i => (sv2 i).v) (ksB n work) tv2 (upd (bths often work t r) t ((bths often work t r) t ++ [⟨0, [(t : Int)]⟩])) av2))
                case first =>
                  refine wp_region_held_drew (S := (fun w' => w'.cell? ⟨X, 2, none⟩ = some (.slice (some ⟨T, 0, none⟩) n n) ∧ w'.frozen? ⟨T, t, none⟩ = false)) (by kernel_rfl) ?_ (fun hHeld => ?_)
                  · (try dsimp only); (first | assumption | exact ⟨c2, f3⟩ | exact HZ.1 | exact HZ.2.2 _ | (refine sees2f ?_ c2 c3 f3; (repeat (first | exact bnil _ | refine Below.drew ?_ | refine bnew ?_ _))))
                  refine wpAnyH_take (i := 0) (oi := ⟨some 70, _, _, _, _, _⟩) (v := ?_) rfl (by kernel_rfl) (by kernel_rfl) (by kernel_rfl) (fun _ _ _ h => h) (Or.inl ⟨by rfl, ?_⟩) (by assumption) ?_
                  rotate_left
                  · intro w hSw; (try dsimp only at hSw); go_simp <;> with_reducible rfl
                  try simp only [Act.put, List.setIfInBounds_toArray, List.set_cons_zero, List.set_cons_succ]
                  refine wpAnyH_take (i := 1) (oi := ⟨some 71, _, _, _, _, _⟩) (v := ?_) rfl (by kernel_rfl) (by kernel_rfl) (by kernel_rfl) (fun _ _ _ h => h) (Or.inl ⟨by rfl, ?_⟩) (by assumption) ?_
                  rotate_left
                  · intro w hSw; (try dsimp only at hSw); go_simp <;> with_reducible rfl
                  try simp only [Act.put, List.setIfInBounds_toArray, List.set_cons_zero, List.set_cons_succ]
                  refine wpAnyH_take (i := 2) (oi := ⟨some 72, _, _, _, _, _⟩) (v := ?_) rfl (by kernel_rfl) (by kernel_rfl) (by kernel_rfl) (fun _ _ _ h => h) (Or.inl ⟨by rfl, ?_⟩) (by assumption) ?_
                  rotate_left
                  · intro w hSw; (try dsimp only at hSw); go_simp <;> with_reducible rfl
                  try simp only [Act.put, List.setIfInBounds_toArray, List.set_cons_zero, List.set_cons_succ]
                  refine wpAnyH_take (i := 3) (oi := ⟨some 73, _, _, _, _, _⟩) (v := ?_) rfl (by kernel_rfl) (by kernel_rfl) (by kernel_rfl) (fun _ _ _ h => h) (Or.inl ⟨by rfl, ?_⟩) (by assumption) ?_
                  rotate_left
                  · intro w hSw; (try dsimp only at hSw); go_simp <;> with_reducible rfl
                  try simp only [Act.put, List.setIfInBounds_toArray, List.set_cons_zero, List.set_cons_succ]
                  refine wpAnyH_take (i := 4) (oi := ⟨some 74, _, _, _, _, _⟩) (v := ?_) rfl (by kernel_rfl) (by kernel_rfl) (by kernel_rfl) (fun _ _ _ h => h) (Or.inl ⟨by rfl, ?_⟩) (by assumption) ?_
                  rotate_left
                  · intro w hSw; (try dsimp only at hSw); go_simp <;> with_reducible rfl
                  try simp only [Act.put, List.setIfInBounds_toArray, List.set_cons_zero, List.set_cons_succ]
                  refine wpAnyH_take (i := 5) (oi := ⟨some 75, _, _, _, _, _⟩) (v := ?_) rfl (by kernel_rfl) (by kernel_rfl) (by kernel_rfl) (fun _ _ _ h => h) (Or.inl ⟨by rfl, ?_⟩) (by assumption) ?_
                  rotate_left
                  · intro w hSw; (try dsimp only at hSw); go_simp <;> with_reducible rfl
                  try simp only [Act.put, List.setIfInBounds_toArray, List.set_cons_zero, List.set_cons_succ]
                  refine wpAnyH_take (i := 6) (oi := ⟨some 76, _, _, _, _, _⟩) (v := ?_) rfl (by kernel_rfl) (by kernel_rfl) (by kernel_rfl) (fun _ _ _ h => h) (Or.inl ⟨by rfl, ?_⟩) (by assumption) ?_
                  rotate_left
                  · intro w hSw; (try dsimp only at hSw); go_simp <;> with_reducible rfl
                  try simp only [Act.put, List.setIfInBounds_toArray, List.set_cons_zero, List.set_cons_succ]
                  refine wpAnyH_take (i := 8) (oi := ⟨some 78, _, _, _, _, _⟩) (v := ?_) rfl (by kernel_rfl) (by kernel_rfl) (by kernel_rfl) (fun _ _ _ h => h) (Or.inl ⟨by rfl, ?_⟩) (by assumption) ?_
                  rotate_left
                  · intro w hSw; (try dsimp only at hSw); go_simp <;> with_reducible rfl
                  try simp only [Act.put, List.setIfInBounds_toArray, List.set_cons_zero, List.set_cons_succ]
                  refine wpAnyH_ready (rs := [7, 9]) (by kernel_rfl) (by simp) ?_
                  refine AllReadyH.cons (o := ⟨some 77, _, _, _, _, _⟩) rfl (fun K hK => ?_) ?_
                  go_simp
                  refine hK.out _ _ ?_ (fun hHeld => ?_)
                  · (try dsimp only); (first | assumption | exact ⟨c2, f3⟩ | exact HZ.1 | exact HZ.2.2 _ | (refine sees2f ?_ c2 c3 f3; (repeat (first | exact bnil _ | refine Below.drew ?_ | refine bnew ?_ _))))
                  clear hK K
                  try simp only [Act.put, List.setIfInBounds_toArray, List.set_cons_zero, List.set_cons_succ]
                  refine wpAnyH_ready (rs := [9]) (by kernel_rfl) (by simp) ?_
                  refine AllReadyH.cons (o := ⟨some 79, _, _, _, _, _⟩) rfl (fun K hK => ?_) AllReadyH.nil
                  go_simp
                  refine hK.out _ _ ?_ (fun hHeld => ?_)
                  · (try dsimp only); (first | assumption | exact ⟨c2, f3⟩ | exact HZ.1 | exact HZ.2.2 _ | (refine sees2f ?_ c2 c3 f3; (repeat (first | exact bnil _ | refine Below.drew ?_ | refine bnew ?_ _))))
                  clear hK K
                  try simp only [Act.put, List.setIfInBounds_toArray, List.set_cons_zero, List.set_cons_succ]
                  refine wpAnyH_take (i := 10) (oi := ⟨some 80, _, _, _, _, _⟩) (v := ?_) rfl (by kernel_rfl) (by kernel_rfl) (by kernel_rfl) (fun _ _ _ h => h) (Or.inl ⟨by rfl, ?_⟩) (by assumption) ?_
                  rotate_left
                  · intro w hSw; (try dsimp only at hSw); go_simp <;> with_reducible rfl
                  try simp only [Act.put, List.setIfInBounds_toArray, List.set_cons_zero, List.set_cons_succ]
                  refine wpAnyH_ready (rs := [11]) (by kernel_rfl) (by simp) ?_
                  refine AllReadyH.cons (o := ⟨some 81, _, _, _, _, _⟩) rfl (fun K hK => ?_) AllReadyH.nil
                  go_simp
                  refine hK.out _ _ ?_ (fun hHeld => ?_)
                  · (try dsimp only); (first | assumption | exact ⟨c2, f3⟩ | exact HZ.1 | exact HZ.2.2 _ | (refine sees2f ?_ c2 c3 f3; (repeat (first | exact bnil _ | refine Below.drew ?_ | refine bnew ?_ _))))
                  clear hK K
                  try simp only [Act.put, List.setIfInBounds_toArray, List.set_cons_zero, List.set_cons_succ]
                  refine wpAnyH_ready (rs := [12]) (by kernel_rfl) (by simp) ?_
                  refine AllReadyH.cons (o := ⟨some 82, _, _, _, _, _⟩) rfl (fun K hK => ?_) AllReadyH.nil
                  (refine step_appC elmCN gS_one rfl (.tmp 77) (.tmp 81) rfl (.slice Aj L cj) (((bths often work t r) t).zip (av t)) rfl (HR.out.row _ (bnew (bnew (bnil _) _) _).drew) [((⟨0, [(t : Int)]⟩ : VCall), (⟨some ⟨wr.heap.size, 0, none⟩, 1, 1⟩ : SV))] y HYE rfl (Sl.drew (Sl.fresh' _ #[_, _] 46 2 1 _ (by simp) rfl)) rfl (by rw [HYL.out]; simp only [maxLen]; omega) (by rw [HYL.out]; omega) (Nat.le_trans HR.out.size (bnew (bnew (bnil _) _) _).drew.size) ?_; intro E7 c7' w6 hc6 hc7 HN6 HG6 HO6; have HZ := HR.out.grow _ w6 (bnew (bnew (bnil _) _) _).drew HG6.out)
                  refine hK.out _ _ ?_ (fun hHeld => ?_)
                  · (try dsimp only); (first | assumption | exact ⟨c2, f3⟩ | exact HZ.1 | exact HZ.2.2 _ | (refine sees2f ?_ c2 c3 f3; (repeat (first | exact bnil _ | refine Below.drew ?_ | refine bnew ?_ _))))
                  clear hK K
                  try simp only [Act.put, List.setIfInBounds_toArray, List.set_cons_zero, List.set_cons_succ]
                  refine wpAnyH_take (i := 13) (oi := ⟨some 83, _, _, _, _, _⟩) (v := ?_) rfl (by kernel_rfl) (by kernel_rfl) (by kernel_rfl) (fun _ _ _ h => h) (Or.inl ⟨by rfl, ?_⟩) (by assumption) ?_
                  rotate_left
                  · intro w hSw; (try dsimp only at hSw); go_simp <;> with_reducible rfl
                  try simp only [Act.put, List.setIfInBounds_toArray, List.set_cons_zero, List.set_cons_succ]
                  refine wpAnyH_ready (rs := [14]) (by kernel_rfl) (by simp) ?_
                  refine AllReadyH.cons (o := ⟨none, _, _, _, _, _⟩) rfl (fun K hK => ?_) AllReadyH.nil
                  go_simp
                  refine hK.out _ _ ?_ (fun hHeld => ?_)
                  · (try dsimp only); (first | assumption | exact ⟨c2, f3⟩ | exact HZ.1 | exact HZ.2.2 _ | (refine sees2f ?_ c2 c3 f3; (repeat (first | exact bnil _ | refine Below.drew ?_ | refine bnew ?_ _))))
                  clear hK K
                  try dsimp only [Act.put]
                  refine wpAnyH_done (by kernel_rfl) ?_ _
                  rotate_left
                  refine AllReadyH.cons (o := ⟨some 79, _, _, _, _, _⟩) rfl (fun K hK => ?_) AllReadyH.nil
                  go_simp
                  refine hK.out _ _ ?_ (fun hHeld => ?_)
                  · (try dsimp only); (first | assumption | exact ⟨c2, f3⟩ | exact HZ.1 | exact HZ.2.2 _ | (refine sees2f ?_ c2 c3 f3; (repeat (first | exact bnil _ | refine Below.drew ?_ | refine bnew ?_ _))))
                  clear hK K
                  try simp only [Act.put, List.setIfInBounds_toArray, List.set_cons_zero, List.set_cons_succ]
                  refine wpAnyH_take (i := 10) (oi := ⟨some 80, _, _, _, _, _⟩) (v := ?_) rfl (by kernel_rfl) (by kernel_rfl) (by kernel_rfl) (fun _ _ _ h => h) (Or.inl ⟨by rfl, ?_⟩) (by assumption) ?_
                  rotate_left
                  · intro w hSw; (try dsimp only at hSw); go_simp <;> with_reducible rfl
                  try simp only [Act.put, List.setIfInBounds_toArray, List.set_cons_zero, List.set_cons_succ]
                  refine wpAnyH_ready (rs := [7, 11]) (by kernel_rfl) (by simp) ?_
                  refine AllReadyH.cons (o := ⟨some 77, _, _, _, _, _⟩) rfl (fun K hK => ?_) ?_
                  go_simp
                  refine hK.out _ _ ?_ (fun hHeld => ?_)
                  · (try dsimp only); (first | assumption | exact ⟨c2, f3⟩ | exact HZ.1 | exact HZ.2.2 _ | (refine sees2f ?_ c2 c3 f3; (repeat (first | exact bnil _ | refine Below.drew ?_ | refine bnew ?_ _))))
                  clear hK K
                  try simp only [Act.put, List.setIfInBounds_toArray, List.set_cons_zero, List.set_cons_succ]
                  refine wpAnyH_ready (rs := [11]) (by kernel_rfl) (by simp) ?_
                  refine AllReadyH.cons (o := ⟨some 81, _, _, _, _, _⟩) rfl (fun K hK => ?_) AllReadyH.nil
                  go_simp
                  refine hK.out _ _ ?_ (fun hHeld => ?_)
                  · (try dsimp only); (first | assumption | exact ⟨c2, f3⟩ | exact HZ.1 | exact HZ.2.2 _ | (refine sees2f ?_ c2 c3 f3; (repeat (first | exact bnil _ | refine Below.drew ?_ | refine bnew ?_ _))))
                  clear hK K
                  try simp only [Act.put, List.setIfInBounds_toArray, List.set_cons_zero, List.set_cons_succ]
                  refine wpAnyH_ready (rs := [12]) (by kernel_rfl) (by simp) ?_
                  refine AllReadyH.cons (o := ⟨some 82, _, _, _, _, _⟩) rfl (fun K hK => ?_) AllReadyH.nil
                  (refine step_appC elmCN gS_one rfl (.tmp 77) (.tmp 81) rfl (.slice Aj L cj) (((bths often work t r) t).zip (av t)) rfl (HR.out.row _ (bnew (bnew (bnil _) _) _).drew) [((⟨0, [(t : Int)]⟩ : VCall), (⟨some ⟨wr.heap.size, 0, none⟩, 1, 1⟩ : SV))] y HYE rfl (Sl.drew (Sl.fresh' _ #[_, _] 46 2 1 _ (by simp) rfl)) rfl (by rw [HYL.out]; simp only [maxLen]; omega) (by rw [HYL.out]; omega) (Nat.le_trans HR.out.size (bnew (bnew (bnil _) _) _).drew.size) ?_; intro E7 c7' w6 hc6 hc7 HN6 HG6 HO6; have HZ := HR.out.grow _ w6 (bnew (bnew (bnil _) _) _).drew HG6.out)
                  refine hK.out _ _ ?_ (fun hHeld => ?_)
                  · (try dsimp only); (first | assumption | exact ⟨c2, f3⟩ | exact HZ.1 | exact HZ.2.2 _ | (refine sees2f ?_ c2 c3 f3; (repeat (first | exact bnil _ | refine Below.drew ?_ | refine bnew ?_ _))))
                  clear hK K
                  try simp only [Act.put, List.setIfInBounds_toArray, List.set_cons_zero, List.set_cons_succ]
                  refine wpAnyH_take (i := 13) (oi := ⟨some 83, _, _, _, _, _⟩) (v := ?_) rfl (by kernel_rfl) (by kernel_rfl) (by kernel_rfl) (fun _ _ _ h => h) (Or.inl ⟨by rfl, ?_⟩) (by assumption) ?_
                  rotate_left
                  · intro w hSw; (try dsimp only at hSw); go_simp <;> with_reducible rfl
                  try simp only [Act.put, List.setIfInBounds_toArray, List.set_cons_zero, List.set_cons_succ]
                  refine wpAnyH_ready (rs := [14]) (by kernel_rfl) (by simp) ?_
                  refine AllReadyH.cons (o := ⟨none, _, _, _, _, _⟩) rfl (fun K hK => ?_) AllReadyH.nil
                  go_simp
                  refine hK.out _ _ ?_ (fun hHeld => ?_)
                  · (try dsimp only); (first | assumption | exact ⟨c2, f3⟩ | exact HZ.1 | exact HZ.2.2 _ | (refine sees2f ?_ c2 c3 f3; (repeat (first | exact bnil _ | refine Below.drew ?_ | refine bnew ?_ _))))
                  clear hK K
                  try dsimp only [Act.put]
                  refine wpAnyH_done (by kernel_rfl) ?_ _
                  rotate_left
                  refine AllReadyH.cons (o := ⟨some 81, _, _, _, _, _⟩) rfl (fun K hK => ?_) AllReadyH.nil
                  go_simp
                  refine hK.out _ _ ?_ (fun hHeld => ?_)
                  · (try dsimp only); (first | assumption | exact ⟨c2, f3⟩ | exact HZ.1 | exact HZ.2.2 _ | (refine sees2f ?_ c2 c3 f3; (repeat (first | exact bnil _ | refine Below.drew ?_ | refine bnew ?_ _))))
                  clear hK K
                  try simp only [Act.put, List.setIfInBounds_toArray, List.set_cons_zero, List.set_cons_succ]
                  refine wpAnyH_ready (rs := [7]) (by kernel_rfl) (by simp) ?_
                  refine AllReadyH.cons (o := ⟨some 77, _, _, _, _, _⟩) rfl (fun K hK => ?_) AllReadyH.nil
                  go_simp
                  refine hK.out _ _ ?_ (fun hHeld => ?_)
                  · (try dsimp only); (first | assumption | exact ⟨c2, f3⟩ | exact HZ.1 | exact HZ.2.2 _ | (refine sees2f ?_ c2 c3 f3; (repeat (first | exact bnil _ | refine Below.drew ?_ | refine bnew ?_ _))))
                  clear hK K
                  try simp only [Act.put, List.setIfInBounds_toArray, List.set_cons_zero, List.set_cons_succ]
                  refine wpAnyH_ready (rs := [12]) (by kernel_rfl) (by simp) ?_
                  refine AllReadyH.cons (o := ⟨some 82, _, _, _, _, _⟩) rfl (fun K hK => ?_) AllReadyH.nil
                  (refine step_appC elmCN gS_one rfl (.tmp 77) (.tmp 81) rfl (.slice Aj L cj) (((bths often work t r) t).zip (av t)) rfl (HR.out.row _ (bnew (bnew (bnil _) _) _).drew) [((⟨0, [(t : Int)]⟩ : VCall), (⟨some ⟨wr.heap.size, 0, none⟩, 1, 1⟩ : SV))] y HYE rfl (Sl.drew (Sl.fresh' _ #[_, _] 46 2 1 _ (by simp) rfl)) rfl (by rw [HYL.out]; simp only [maxLen]; omega) (by rw [HYL.out]; omega) (Nat.le_trans HR.out.size (bnew (bnew (bnil _) _) _).drew.size) ?_; intro E7 c7' w6 hc6 hc7 HN6 HG6 HO6; have HZ := HR.out.grow _ w6 (bnew (bnew (bnil _) _) _).drew HG6.out)
                  refine hK.out _ _ ?_ (fun hHeld => ?_)
                  · (try dsimp only); (first | assumption | exact ⟨c2, f3⟩ | exact HZ.1 | exact HZ.2.2 _ | (refine sees2f ?_ c2 c3 f3; (repeat (first | exact bnil _ | refine Below.drew ?_ | refine bnew ?_ _))))
                  clear hK K
                  try simp only [Act.put, List.setIfInBounds_toArray, List.set_cons_zero, List.set_cons_succ]
                  refine wpAnyH_take (i := 13) (oi := ⟨some 83, _, _, _, _, _⟩) (v := ?_) rfl (by kernel_rfl) (by kernel_rfl) (by kernel_rfl) (fun _ _ _ h => h) (Or.inl ⟨by rfl, ?_⟩) (by assumption) ?_
                  rotate_left
                  · intro w hSw; (try dsimp only at hSw); go_simp <;> with_reducible rfl
                  try simp only [Act.put, List.setIfInBounds_toArray, List.set_cons_zero, List.set_cons_succ]
                  refine wpAnyH_ready (rs := [14]) (by kernel_rfl) (by simp) ?_
                  refine AllReadyH.cons (o := ⟨none, _, _, _, _, _⟩) rfl (fun K hK => ?_) AllReadyH.nil
                  go_simp
                  refine hK.out _ _ ?_ (fun hHeld => ?_)
                  · (try dsimp only); (first | assumption | exact ⟨c2, f3⟩ | exact HZ.1 | exact HZ.2.2 _ | (refine sees2f ?_ c2 c3 f3; (repeat (first | exact bnil _ | refine Below.drew ?_ | refine bnew ?_ _))))
                  clear hK K
                  try dsimp only [Act.put]
                  refine wpAnyH_done (by kernel_rfl) ?_ _
                  rotate_left
                  all_goals
                    have HF := hid (HX.out.app hlt [⟨0, [(t : Int)]⟩] [⟨some ⟨wr.heap.size, 0, none⟩, 1, 1⟩] (bnew (bnew (bnil _) _) _).drew rfl (arg_own wr HX.out.below.size 0 (t : Int) _) HYE.out (by rw [HAJ.out]; exact HG6.out) (by rw [HAJ.out]; exact HO6.out) HN6.out)
                    clear HZ HG6 HO6 HN6
                    go_wp2
                    go_meet
                    exact ⟨_, _, HF⟩
                case rest =>
                  obtain ⟨tv2, av2, HX2⟩ := hcut
                  obtain ⟨wa2, hwa2⟩ : ∃ w2, w2 = wc := ⟨_, rfl⟩
                  subst hwa2
                  clear HR HAJ c2 c3 f3 hcj hcm ltT ltX HYE HYL y Aj cj hL18 L
                  obtain ⟨th1, hth1⟩ : ∃ th1, upd (bths often work t r) t ((bths often work t r) t ++ [⟨0, [(t : Int)]⟩]) = th1 := ⟨_, rfl⟩
                  rw [hth1] at HX2
                  have HLNb := hid (show (th1 t).length ≤ 19 by rw [← hth1, upd_same]; simp only [List.length_append, List.length_singleton]; have := HLN.out; omega)
                  have HTH1 := hid hth1
                  clear hth1
                  by_cases hw0 : 0 < work
                  · have iw0 : (0 : Int) < (work : Int) := by omega
                    obtain ⟨t1, ht1⟩ : ∃ t1, 1 + t = t1 := ⟨_, rfl⟩
                    have ew1c : IntKind.i64.wrap (1 + (t : Int)) = (t1 : Int) := by rw [← ht1, IntWalk.i64_in _ (by omega)]; omega
                    have HT1 := hid ht1
                    clear ht1
                    go_upto_region 17 with fail
                    obtain ⟨Aj, cj, hAj, HR0⟩ := HX2.out.row hlt
                    obtain ⟨L, hL⟩ : ∃ L, (th1 t).length = L := ⟨_, rfl⟩
                    rw [hL] at hAj HR0
                    have hL18 : L ≤ 19 := by rw [← hL]; have := HLNb.out; omega
                    obtain ⟨y, hy⟩ : ∃ y, (th1 t).zip (av2 t) ++ [((⟨t1, []⟩ : VCall), (⟨none, 0, 0⟩ : SV))] = y := ⟨_, rfl⟩
                    have HYE := hid hy
                    have HYL := hid (show y.length = L + 1 by rw [← hy, List.length_append, HR0.len]; rfl)
                    have HR := hid HR0
                    have HAJ := hid hAj
                    have c2 := HR.out.c2; have c3 := HR.out.c3; have f3 := HR.out.f3; have hcj := HR.out.hcj; have hcm := HR.out.hcm
                    unfold maxLen at hcm
                    clear hy HR0 hAj hL
                    have ltT := World.block_lt_of_cell? wa2 _ c3
                    have ltX := World.block_lt_of_cell? wa2 _ c2
                    refine wp_region_held_drew (S := (fun w' => w'.cell? ⟨X, 2, none⟩ = some (.slice (some ⟨T, 0, none⟩) n n) ∧ w'.frozen? ⟨T, t, none⟩ = false)) (by kernel_rfl) ?_ (fun hHeld => ?_)
                    · (try dsimp only); (first | assumption | exact ⟨c2, f3⟩ | exact HZ.1 | exact HZ.2.2 _ | (refine sees2f ?_ c2 c3 f3; (repeat (first | exact bnil _ | refine Below.drew ?_ | refine bnew ?_ _))))
                    refine wpAnyH_take (i := 0) (oi := ⟨some 86, _, _, _, _, _⟩) (v := ?_) rfl (by kernel_rfl) (by kernel_rfl) (by kernel_rfl) (fun _ _ _ h => h) (Or.inl ⟨by rfl, ?_⟩) (by assumption) ?_
                    rotate_left
                    · intro w hSw; (try dsimp only at hSw); go_simp <;> with_reducible rfl
                    try simp only [Act.put, List.setIfInBounds_toArray, List.set_cons_zero, List.set_cons_succ]
                    refine wpAnyH_take (i := 1) (oi := ⟨some 87, _, _, _, _, _⟩) (v := ?_) rfl (by kernel_rfl) (by kernel_rfl) (by kernel_rfl) (fun _ _ _ h => h) (Or.inl ⟨by rfl, ?_⟩) (by assumption) ?_
                    rotate_left
                    · intro w hSw; (try dsimp only at hSw); go_simp <;> with_reducible rfl
                    try simp only [Act.put, List.setIfInBounds_toArray, List.set_cons_zero, List.set_cons_succ]
                    refine wpAnyH_take (i := 2) (oi := ⟨some 88, _, _, _, _, _⟩) (v := ?_) rfl (by kernel_rfl) (by kernel_rfl) (by kernel_rfl) (fun _ _ _ h => h) (Or.inl ⟨by rfl, ?_⟩) (by assumption) ?_
                    rotate_left
                    · intro w hSw; (try dsimp only at hSw); go_simp <;> with_reducible rfl
                    try simp only [Act.put, List.setIfInBounds_toArray, List.set_cons_zero, List.set_cons_succ]
                    refine wpAnyH_take (i := 3) (oi := ⟨some 89, _, _, _, _, _⟩) (v := ?_) rfl (by kernel_rfl) (by kernel_rfl) (by kernel_rfl) (fun _ _ _ h => h) (Or.inl ⟨by rfl, ?_⟩) (by assumption) ?_
                    rotate_left
                    · intro w hSw; (try dsimp only at hSw); go_simp <;> with_reducible rfl
                    try simp only [Act.put, List.setIfInBounds_toArray, List.set_cons_zero, List.set_cons_succ]
                    refine wpAnyH_take (i := 4) (oi := ⟨some 90, _, _, _, _, _⟩) (v := ?_) rfl (by kernel_rfl) (by kernel_rfl) (by kernel_rfl) (fun _ _ _ h => h) (Or.inl ⟨by rfl, ?_⟩) (by assumption) ?_
                    rotate_left
                    · intro w hSw; (try dsimp only at hSw); go_simp <;> with_reducible rfl
                    try simp only [Act.put, List.setIfInBounds_toArray, List.set_cons_zero, List.set_cons_succ]
                    refine wpAnyH_take (i := 5) (oi := ⟨some 91, _, _, _, _, _⟩) (v := ?_) rfl (by kernel_rfl) (by kernel_rfl) (by kernel_rfl) (fun _ _ _ h => h) (Or.inl ⟨by rfl, ?_⟩) (by assumption) ?_
                    rotate_left
                    · intro w hSw; (try dsimp only at hSw); go_simp <;> with_reducible rfl
                    try simp only [Act.put, List.setIfInBounds_toArray, List.set_cons_zero, List.set_cons_succ]
                    refine wpAnyH_take (i := 6) (oi := ⟨some 92, _, _, _, _, _⟩) (v := ?_) rfl (by kernel_rfl) (by kernel_rfl) (by kernel_rfl) (fun _ _ _ h => h) (Or.inl ⟨by rfl, ?_⟩) (by assumption) ?_
                    rotate_left
                    · intro w hSw; (try dsimp only at hSw); go_simp <;> with_reducible rfl
                    try simp only [Act.put, List.setIfInBounds_toArray, List.set_cons_zero, List.set_cons_succ]
                    refine wpAnyH_take (i := 8) (oi := ⟨some 94, _, _, _, _, _⟩) (v := ?_) rfl (by kernel_rfl) (by kernel_rfl) (by kernel_rfl) (fun _ _ _ h => h) (Or.inl ⟨by rfl, ?_⟩) (by assumption) ?_
                    rotate_left
                    · intro w hSw; (try dsimp only at hSw); go_simp <;> with_reducible rfl
                    try simp only [Act.put, List.setIfInBounds_toArray, List.set_cons_zero, List.set_cons_succ]
                    refine wpAnyH_take (i := 9) (oi := ⟨some 95, _, _, _, _, _⟩) (v := ?_) rfl (by kernel_rfl) (by kernel_rfl) (by kernel_rfl) (fun _ _ _ h => h) (Or.inl ⟨by rfl, ?_⟩) (by assumption) ?_
                    rotate_left
                    · intro w hSw; (try dsimp only at hSw); go_simp <;> with_reducible rfl
                    try simp only [Act.put, List.setIfInBounds_toArray, List.set_cons_zero, List.set_cons_succ]
                    refine wpAnyH_take (i := 10) (oi := ⟨some 96, _, _, _, _, _⟩) (v := ?_) rfl (by kernel_rfl) (by kernel_rfl) (by kernel_rfl) (fun _ _ _ h => h) (Or.inl ⟨by rfl, ?_⟩) (by assumption) ?_
                    rotate_left
                    · intro w hSw; (try dsimp only at hSw); go_simp <;> with_reducible rfl
                    try simp only [Act.put, List.setIfInBounds_toArray, List.set_cons_zero, List.set_cons_succ]
                    refine wpAnyH_ready (rs := [7, 11]) (by kernel_rfl) (by simp) ?_
                    refine AllReadyH.cons (o := ⟨some 93, _, _, _, _, _⟩) rfl (fun K hK => ?_) ?_
                    go_simp
                    refine hK.out _ _ ?_ (fun hHeld => ?_)
                    · (try dsimp only); (first | assumption | exact ⟨c2, f3⟩ | exact HZ.1 | exact HZ.2.2 _ | (refine sees2f ?_ c2 c3 f3; (repeat (first | exact bnil _ | refine Below.drew ?_ | refine bnew ?_ _))))
                    clear hK K
                    try simp only [Act.put, List.setIfInBounds_toArray, List.set_cons_zero, List.set_cons_succ]
                    refine wpAnyH_ready (rs := [11]) (by kernel_rfl) (by simp) ?_
                    refine AllReadyH.cons (o := ⟨some 97, _, _, _, _, _⟩) rfl (fun K hK => ?_) AllReadyH.nil
                    go_simp
                    refine hK.out _ _ ?_ (fun hHeld => ?_)
                    · (try dsimp only); (first | assumption | exact ⟨c2, f3⟩ | exact HZ.1 | exact HZ.2.2 _ | (refine sees2f ?_ c2 c3 f3; (repeat (first | exact bnil _ | refine Below.drew ?_ | refine bnew ?_ _))))
                    clear hK K
                    try simp only [Act.put, List.setIfInBounds_toArray, List.set_cons_zero, List.set_cons_succ]
                    refine wpAnyH_ready (rs := [12]) (by kernel_rfl) (by simp) ?_
                    refine AllReadyH.cons (o := ⟨some 98, _, _, _, _, _⟩) rfl (fun K hK => ?_) AllReadyH.nil
                    (refine step_appC elmCN gS_one rfl (.tmp 93) (.tmp 97) rfl (.slice Aj L cj) ((th1 t).zip (av2 t)) rfl (HR.out.row _ (bnew (bnil _) _).drew) [((⟨t1, []⟩ : VCall), (⟨none, 0, 0⟩ : SV))] y HYE rfl (Sl.drew (Sl.fresh' _ #[_, _] 46 2 1 _ (by simp) rfl)) rfl (by rw [HYL.out]; simp only [maxLen]; omega) (by rw [HYL.out]; omega) (Nat.le_trans HR.out.size (bnew (bnil _) _).drew.size) ?_; intro E7 c7' w6 hc6 hc7 HN6 HG6 HO6; have HZ := HR.out.grow _ w6 (bnew (bnil _) _).drew HG6.out)
                    refine hK.out _ _ ?_ (fun hHeld => ?_)
                    · (try dsimp only); (first | assumption | exact ⟨c2, f3⟩ | exact HZ.1 | exact HZ.2.2 _ | (refine sees2f ?_ c2 c3 f3; (repeat (first | exact bnil _ | refine Below.drew ?_ | refine bnew ?_ _))))
                    clear hK K
                    try simp only [Act.put, List.setIfInBounds_toArray, List.set_cons_zero, List.set_cons_succ]
                    refine wpAnyH_take (i := 13) (oi := ⟨some 99, _, _, _, _, _⟩) (v := ?_) rfl (by kernel_rfl) (by kernel_rfl) (by kernel_rfl) (fun _ _ _ h => h) (Or.inl ⟨by rfl, ?_⟩) (by assumption) ?_
                    rotate_left
                    · intro w hSw; (try dsimp only at hSw); go_simp <;> with_reducible rfl
                    try simp only [Act.put, List.setIfInBounds_toArray, List.set_cons_zero, List.set_cons_succ]
                    refine wpAnyH_ready (rs := [14]) (by kernel_rfl) (by simp) ?_
                    refine AllReadyH.cons (o := ⟨none, _, _, _, _, _⟩) rfl (fun K hK => ?_) AllReadyH.nil
                    go_simp
                    refine hK.out _ _ ?_ (fun hHeld => ?_)
                    · (try dsimp only); (first | assumption | exact ⟨c2, f3⟩ | exact HZ.1 | exact HZ.2.2 _ | (refine sees2f ?_ c2 c3 f3; (repeat (first | exact bnil _ | refine Below.drew ?_ | refine bnew ?_ _))))
                    clear hK K
                    try dsimp only [Act.put]
                    refine wpAnyH_done (by kernel_rfl) ?_ _
                    rotate_left
                    refine AllReadyH.cons (o := ⟨some 97, _, _, _, _, _⟩) rfl (fun K hK => ?_) AllReadyH.nil
                    go_simp
                    refine hK.out _ _ ?_ (fun hHeld => ?_)
                    · (try dsimp only); (first | assumption | exact ⟨c2, f3⟩ | exact HZ.1 | exact HZ.2.2 _ | (refine sees2f ?_ c2 c3 f3; (repeat (first | exact bnil _ | refine Below.drew ?_ | refine bnew ?_ _))))
                    clear hK K
                    try simp only [Act.put, List.setIfInBounds_toArray, List.set_cons_zero, List.set_cons_succ]
                    refine wpAnyH_ready (rs := [7]) (by kernel_rfl) (by simp) ?_
                    refine AllReadyH.cons (o := ⟨some 93, _, _, _, _, _⟩) rfl (fun K hK => ?_) AllReadyH.nil
                    go_simp
                    refine hK.out _ _ ?_ (fun hHeld => ?_)
                    · (try dsimp only); (first | assumption | exact ⟨c2, f3⟩ | exact HZ.1 | exact HZ.2.2 _ | (refine sees2f ?_ c2 c3 f3; (repeat (first | exact bnil _ | refine Below.drew ?_ | refine bnew ?_ _))))
                    clear hK K
                    try simp only [Act.put, List.setIfInBounds_toArray, List.set_cons_zero, List.set_cons_succ]
                    refine wpAnyH_ready (rs := [12]) (by kernel_rfl) (by simp) ?_
                    refine AllReadyH.cons (o := ⟨some 98, _, _, _, _, _⟩) rfl (fun K hK => ?_) AllReadyH.nil
                    (refine step_appC elmCN gS_one rfl (.tmp 93) (.tmp 97) rfl (.slice Aj L cj) ((th1 t).zip (av2 t)) rfl (HR.out.row _ (bnew (bnil _) _).drew) [((⟨t1, []⟩ : VCall), (⟨none, 0, 0⟩ : SV))] y HYE rfl (Sl.drew (Sl.fresh' _ #[_, _] 46 2 1 _ (by simp) rfl)) rfl (by rw [HYL.out]; simp only [maxLen]; omega) (by rw [HYL.out]; omega) (Nat.le_trans HR.out.size (bnew (bnil _) _).drew.size) ?_; intro E7 c7' w6 hc6 hc7 HN6 HG6 HO6; have HZ := HR.out.grow _ w6 (bnew (bnil _) _).drew HG6.out)
                    refine hK.out _ _ ?_ (fun hHeld => ?_)
                    · (try dsimp only); (first | assumption | exact ⟨c2, f3⟩ | exact HZ.1 | exact HZ.2.2 _ | (refine sees2f ?_ c2 c3 f3; (repeat (first | exact bnil _ | refine Below.drew ?_ | refine bnew ?_ _))))
                    clear hK K
                    try simp only [Act.put, List.setIfInBounds_toArray, List.set_cons_zero, List.set_cons_succ]
                    refine wpAnyH_take (i := 13) (oi := ⟨some 99, _, _, _, _, _⟩) (v := ?_) rfl (by kernel_rfl) (by kernel_rfl) (by kernel_rfl) (fun _ _ _ h => h) (Or.inl ⟨by rfl, ?_⟩) (by assumption) ?_
                    rotate_left
                    · intro w hSw; (try dsimp only at hSw); go_simp <;> with_reducible rfl
                    try simp only [Act.put, List.setIfInBounds_toArray, List.set_cons_zero, List.set_cons_succ]
                    refine wpAnyH_ready (rs := [14]) (by kernel_rfl) (by simp) ?_
                    refine AllReadyH.cons (o := ⟨none, _, _, _, _, _⟩) rfl (fun K hK => ?_) AllReadyH.nil
                    go_simp
                    refine hK.out _ _ ?_ (fun hHeld => ?_)
                    · (try dsimp only); (first | assumption | exact ⟨c2, f3⟩ | exact HZ.1 | exact HZ.2.2 _ | (refine sees2f ?_ c2 c3 f3; (repeat (first | exact bnil _ | refine Below.drew ?_ | refine bnew ?_ _))))
                    clear hK K
                    try dsimp only [Act.put]
                    refine wpAnyH_done (by kernel_rfl) ?_ _
                    rotate_left
                    all_goals
                      have HX3 := hid (HX2.out.app hlt [⟨t1, []⟩] [⟨none, 0, 0⟩] (bnew (bnil _) _).drew rfl (one_own2 t1) HYE.out (by rw [HAJ.out]; exact HG6.out) (by rw [HAJ.out]; exact HO6.out) HN6.out)
                      clear HZ HG6 HO6 HN6
                      have HXE := hid (show MBunG w _ w.heap.size nil3 w.heap.size X (.slice E6 (t + 2) c6) T (t + 1 + 1) n (.slice AW 1 cW) ([0] : List Int) (fun i => (sv2 i).v) (ksB n work) _ (bths often work t (r + 1)) _ from by have h := HX3.out; rw [← HTH1.out, upd_upd, upd_same, List.append_assoc, ← HT1.out] at h; rw [← bths_upd]; unfold bround; rw [if_pos hw0]; exact h)
                      clear HX3
                      go_wp2_with fail
                      go_roundw
                      case rel => exact ⟨r + 1, _, _, h6, by go_num, HXE⟩
                      case measure => simp [intOf]; omega

                  · have iw0 : ¬ (0 : Int) < (work : Int) := by omega
                    have HXE := hid (show MBunG w _ w.heap.size nil3 w.heap.size X (.slice E6 (t + 2) c6) T (t + 1 + 1) n (.slice AW 1 cW) ([0] : List Int) (fun i => (sv2 i).v) (ksB n work) _ (bths often work t (r + 1)) _ from by have h := HX2.out; rw [← HTH1.out] at h; rw [← bths_upd]; unfold bround; rw [if_neg hw0]; exact h)
                    clear HX2
                    go_wp2_with fail
                    go_roundw
                    case rel => exact ⟨r + 1, _, _, h6, by go_num, HXE⟩
                    case measure => simp [intOf]; omega
              · obtain rfl : r = often := by omega
                have i6 : ¬ (r : Int) < (r : Int) := by omega
                go_wp2_with fail
                go_roundw
                case rel => exact ⟨t + 1, _, sv2, tv, av, by omega, by go_num, (by rw [← bths_next]; exact HX)⟩
                case measure => simp [intOf]; omega
    · obtain rfl : t = n := by omega
      have j1 : ¬ (t : Int) < (t : Int) := by omega
      obtain ⟨n, hnt⟩ : ∃ n, n = t := ⟨_, rfl⟩
      subst hnt
      obtain ⟨AC, cC, hcvv, hcC1, hcC2⟩ := own_form HX.out.mn.co
      subst hcvv
      have HX := hid (HX.out.threads (th' := fun j => brows work j often) (fun q hq => by unfold bths; rw [if_pos hq]))
      have HMA := hid (barr_at HX.out.mn h1 h4 hof hwk)
      have y0 : wr.cell? ⟨X, 0, none⟩ = some (.slice AW 1 cW) := HX.out.hx.cell 0
      have y1 : wr.cell? ⟨X, 1, none⟩ = some (.slice AC (n + 1) cC) := HX.out.hx.cell 1
      have y2 : wr.cell? ⟨X, 2, none⟩ = some (.slice (some ⟨T, 0, none⟩) n n) := HX.out.hx.cell 2
      have z0 := HX.out.hr.frozen 0
      have z1 := HX.out.hr.frozen 1
      have z2 := HX.out.hr.frozen 2
      have z3 : wr.cell? ⟨w.heap.size, 0, none⟩ = some (.slice none 0 0) := HX.out.hr.cell 0
      have z4 : wr.cell? ⟨w.heap.size, 1, none⟩ = some (.slice none 0 0) := HX.out.hr.cell 1
      have z5 : wr.cell? ⟨w.heap.size, 2, none⟩ = some (.slice none 0 0) := HX.out.hr.cell 2
      have HTR := hid (HT.out.below HX.out.below)
      have hXR : X ≠ w.heap.size := fun e => hgX e.symm
      unfold maxLen at hcC2
      go_upto_region 18 with fail
      refine wp_region_held_drew (S := (fun w' => w'.cell? ⟨X, 0, none⟩ = some (.slice AW 1 cW) ∧ w'.cell? ⟨X, 1, none⟩ = some (.slice AC (n + 1) cC) ∧ w'.cell? ⟨X, 2, none⟩ = some (.slice (some ⟨T, 0, none⟩) n n) ∧ w'.frozen? ⟨w.heap.size, 0, none⟩ = false ∧ w'.frozen? ⟨w.heap.size, 1, none⟩ = false ∧ w'.frozen? ⟨w.heap.size, 2, none⟩ = false)) (by kernel_rfl) ?_ (fun hHeld => ?_)
      · (try dsimp only); (first | assumption | exact ⟨y0, y1, y2, z0, z1, z2⟩ | exact ⟨y0', y1', y2', z0', z1', z2'⟩ | exact keep16s hXR y0' y1' y2' z0' z1' z2' _ _ _)
      refine wpAnyH_take (i := 0) (oi := ⟨some 100, _, _, _, _, _⟩) (v := ?_) rfl (by kernel_rfl) (by kernel_rfl) (by kernel_rfl) (fun _ _ _ h => h) (Or.inl ⟨by rfl, ?_⟩) (by assumption) ?_
      rotate_left
      · intro w hSw; (try dsimp only at hSw); go_simp <;> with_reducible rfl
      try simp only [Act.put, List.setIfInBounds_toArray, List.set_cons_zero, List.set_cons_succ]
      refine wpAnyH_take (i := 1) (oi := ⟨some 101, _, _, _, _, _⟩) (v := ?_) rfl (by kernel_rfl) (by kernel_rfl) (by kernel_rfl) (fun _ _ _ h => h) (Or.inl ⟨by rfl, ?_⟩) (by assumption) ?_
      rotate_left
      · intro w hSw; (try dsimp only at hSw); go_simp <;> with_reducible rfl
      try simp only [Act.put, List.setIfInBounds_toArray, List.set_cons_zero, List.set_cons_succ]
      refine wpAnyH_take (i := 2) (oi := ⟨some 102, _, _, _, _, _⟩) (v := ?_) rfl (by kernel_rfl) (by kernel_rfl) (by kernel_rfl) (fun _ _ _ h => h) (Or.inl ⟨by rfl, ?_⟩) (by assumption) ?_
      rotate_left
      · intro w hSw; (try dsimp only at hSw); go_simp <;> with_reducible rfl
      try simp only [Act.put, List.setIfInBounds_toArray, List.set_cons_zero, List.set_cons_succ]
      refine wpAnyH_take (i := 3) (oi := ⟨some 103, _, _, _, _, _⟩) (v := ?_) rfl (by kernel_rfl) (by kernel_rfl) (by kernel_rfl) (fun _ _ _ h => h) (Or.inl ⟨by rfl, ?_⟩) (by assumption) ?_
      rotate_left
      · intro w hSw; (try dsimp only at hSw); go_simp <;> with_reducible rfl
      try simp only [Act.put, List.setIfInBounds_toArray, List.set_cons_zero, List.set_cons_succ]
      refine wpAnyH_take (i := 4) (oi := ⟨some 104, _, _, _, _, _⟩) (v := ?_) rfl (by kernel_rfl) (by kernel_rfl) (by kernel_rfl) (fun _ _ _ h => h) (Or.inl ⟨by rfl, ?_⟩) (by assumption) ?_
      rotate_left
      · intro w hSw; (try dsimp only at hSw); go_simp <;> with_reducible rfl
      try simp only [Act.put, List.setIfInBounds_toArray, List.set_cons_zero, List.set_cons_succ]
      refine wpAnyH_take (i := 5) (oi := ⟨some 105, _, _, _, _, _⟩) (v := ?_) rfl (by kernel_rfl) (by kernel_rfl) (by kernel_rfl) (fun _ _ _ h => h) (Or.inl ⟨by rfl, ?_⟩) (by assumption) ?_
      rotate_left
      · intro w hSw; (try dsimp only at hSw); go_simp <;> with_reducible rfl
      try simp only [Act.put, List.setIfInBounds_toArray, List.set_cons_zero, List.set_cons_succ]
      refine wpAnyH_take (i := 6) (oi := ⟨some 106, _, _, _, _, _⟩) (v := ?_) rfl (by kernel_rfl) (by kernel_rfl) (by kernel_rfl) (fun _ _ _ h => h) (Or.inl ⟨by rfl, ?_⟩) (by assumption) ?_
      rotate_left
      · intro w hSw; (try dsimp only at hSw); go_simp <;> with_reducible rfl
      try simp only [Act.put, List.setIfInBounds_toArray, List.set_cons_zero, List.set_cons_succ]
      refine wpAnyH_take (i := 7) (oi := ⟨some 107, _, _, _, _, _⟩) (v := ?_) rfl (by kernel_rfl) (by kernel_rfl) (by kernel_rfl) (fun _ _ _ h => h) (Or.inl ⟨by rfl, ?_⟩) (by assumption) ?_
      rotate_left
      · intro w hSw; (try dsimp only at hSw); go_simp <;> with_reducible rfl
      try simp only [Act.put, List.setIfInBounds_toArray, List.set_cons_zero, List.set_cons_succ]
      refine wpAnyH_take (i := 8) (oi := ⟨some 108, _, _, _, _, _⟩) (v := ?_) rfl (by kernel_rfl) (by kernel_rfl) (by kernel_rfl) (fun _ _ _ h => h) (Or.inl ⟨by rfl, ?_⟩) (by assumption) ?_
      rotate_left
      · intro w hSw; (try dsimp only at hSw); go_simp <;> with_reducible rfl
      try simp only [Act.put, List.setIfInBounds_toArray, List.set_cons_zero, List.set_cons_succ]
      refine wpAnyH_take (i := 9) (oi := ⟨some 109, _, _, _, _, _⟩) (v := ?_) rfl (by kernel_rfl) (by kernel_rfl) (by kernel_rfl) (fun _ _ _ h => h) (Or.inl ⟨by rfl, ?_⟩) (by assumption) ?_
      rotate_left
      · intro w hSw; (try dsimp only at hSw); go_simp <;> with_reducible rfl
      try simp only [Act.put, List.setIfInBounds_toArray, List.set_cons_zero, List.set_cons_succ]
      refine wpAnyH_take (i := 10) (oi := ⟨some 110, _, _, _, _, _⟩) (v := ?_) rfl (by kernel_rfl) (by kernel_rfl) (by kernel_rfl) (fun _ _ _ h => h) (Or.inl ⟨by rfl, ?_⟩) (by assumption) ?_
      rotate_left
      · intro w hSw; (try dsimp only at hSw); go_simp <;> with_reducible rfl
      try simp only [Act.put, List.setIfInBounds_toArray, List.set_cons_zero, List.set_cons_succ]
      refine wpAnyH_take (i := 11) (oi := ⟨some 111, _, _, _, _, _⟩) (v := ?_) rfl (by kernel_rfl) (by kernel_rfl) (by kernel_rfl) (fun _ _ _ h => h) (Or.inl ⟨by rfl, ?_⟩) (by assumption) ?_
      rotate_left
      · intro w hSw; (try dsimp only at hSw); go_simp <;> with_reducible rfl
      try simp only [Act.put, List.setIfInBounds_toArray, List.set_cons_zero, List.set_cons_succ]
      refine wpAnyH_take (i := 12) (oi := ⟨some 112, _, _, _, _, _⟩) (v := ?_) rfl (by kernel_rfl) (by kernel_rfl) (by kernel_rfl) (fun _ _ _ h => h) (Or.inl ⟨by rfl, ?_⟩) (by assumption) ?_
      rotate_left
      · intro w hSw; (try dsimp only at hSw); go_simp <;> with_reducible rfl
      try simp only [Act.put, List.setIfInBounds_toArray, List.set_cons_zero, List.set_cons_succ]
      refine wpAnyH_take (i := 13) (oi := ⟨some 113, _, _, _, _, _⟩) (v := ?_) rfl (by kernel_rfl) (by kernel_rfl) (by kernel_rfl) (fun _ _ _ h => h) (Or.inl ⟨by rfl, ?_⟩) (by assumption) ?_
      rotate_left
      · intro w hSw; (try dsimp only at hSw); go_simp <;> with_reducible rfl
      try simp only [Act.put, List.setIfInBounds_toArray, List.set_cons_zero, List.set_cons_succ]
      refine wpAnyH_ready (rs := [14]) (by kernel_rfl) (by simp) ?_
      refine AllReadyH.cons (o := ⟨some 114, _, _, _, _, _⟩) rfl (fun K hK => ?_) AllReadyH.nil
      go_simp
      refine (run_may AW AC (some ⟨T, 0, none⟩) 1 cW (n + 1) cC n n _ _ (by decide) (by omega) (by omega) (HTR.out.below (bnil _).drew) (HMA.out.below (bnil _).drew)).mono ?_; rintro e w4 ⟨rfl, b4⟩; have b4 := bgo (bnil wr).drew b4; obtain ⟨y0', y1', y2', z0', z1', z2', z3', z4', z5'⟩ := keep16 b4 y0 y1 y2 z0 z1 z2 z3 z4 z5; clear y0 y1 y2 z0 z1 z2 z3 z4 z5
      go_wp2_with fail
      refine hK.out _ _ ?_ (fun hHeld => ?_)
      · (try dsimp only); (first | assumption | exact ⟨y0, y1, y2, z0, z1, z2⟩ | exact ⟨y0', y1', y2', z0', z1', z2'⟩ | exact keep16s hXR y0' y1' y2' z0' z1' z2' _ _ _)
      clear hK K
      try simp only [Act.put, List.setIfInBounds_toArray, List.set_cons_zero, List.set_cons_succ]
      refine wpAnyH_take (i := 15) (oi := ⟨some 115, _, _, _, _, _⟩) (v := ?_) rfl (by kernel_rfl) (by kernel_rfl) (by kernel_rfl) (fun _ _ _ h => h) (Or.inl ⟨by rfl, ?_⟩) (by assumption) ?_
      rotate_left
      · intro w hSw; (try dsimp only at hSw); go_simp <;> with_reducible rfl
      try simp only [Act.put, List.setIfInBounds_toArray, List.set_cons_zero, List.set_cons_succ]
      refine wpAnyH_ready (rs := [16]) (by kernel_rfl) (by simp) ?_
      refine AllReadyH.cons (o := ⟨none, _, _, _, _, _⟩) rfl (fun K hK => ?_) AllReadyH.nil
      go_simp
      refine hK.out _ _ ?_ (fun hHeld => ?_)
      · (try dsimp only); (first | assumption | exact ⟨y0, y1, y2, z0, z1, z2⟩ | exact ⟨y0', y1', y2', z0', z1', z2'⟩ | exact keep16s hXR y0' y1' y2' z0' z1' z2' _ _ _)
      clear hK K
      try dsimp only [Act.put]
      refine wpAnyH_take (i := 17) (oi := ⟨some 7, _, _, _, _, _⟩) (v := ?_) rfl (by kernel_rfl) (by kernel_rfl) (by kernel_rfl) (fun _ _ _ h => h) (Or.inl ⟨by rfl, ?_⟩) (by assumption) ?_
      rotate_left
      · intro w hSw; (try dsimp only at hSw); go_simp <;> with_reducible rfl
      try simp only [Act.put, List.setIfInBounds_toArray, List.set_cons_zero, List.set_cons_succ]
      refine wpAnyH_done (by kernel_rfl) ?_ _
      rotate_left
      go_wp2_with fail
      have HXZ := hid (HX.out.step b4)
      obtain ⟨q0, q1, q2⟩ := set3N HXZ.out.hr (.slice AW 1 cW) (.slice AC (n + 1) cC) (.slice (some ⟨T, 0, none⟩) n n)
      refine bodyPost_ret (v := .tuple #[.agg #[.slice AW 1 cW, .slice AC (n + 1) cC, .slice (some ⟨T, 0, none⟩) n n], .bool true]) (by simp [results, Tryd.results30, go_sem, q0, q1, q2]) rfl ?_
      exact ⟨AW, cW, AC, cC, T, _, tv, av, rfl, own_res HXZ.out.own HXZ.out.hr (by decide) _ _ _, HXZ.out.mn.res HXZ.out.hr _ _ _, ((HXZ.out.below.setCell (p := ⟨w.heap.size, 0, none⟩) (Nat.le_refl _) _).setCell (p := ⟨w.heap.size, 1, none⟩) (Nat.le_refl _) _).setCell (p := ⟨w.heap.size, 2, none⟩) (Nat.le_refl _) _⟩
end Go.Proofs.YtnoinojhocicjaaDoor
