/-
  barographkeep.cellMachine: its walk. Written by gen_cellm.py.
-/
import Derived.Test.YtabmkjokeeakdaaDoorMBun
import Derived.Test.YtabmkjokeeakdaaDoorKeep16
import Derived.Test.YtabmkjokeeakdaaDoorRunMay
import Derived.Test.YtabmkjokeeakdaaDoorCodesC
import Derived.Deep.RegionHeld
namespace Go.Proofs.YtabmkjokeeakdaaDoor
open Go.RowKit
set_option linter.unusedVariables false

/-- the numbers of the i-th Put -/
def cargs (n i : Nat) : List Int := (List.range n).map fun k : Nat => 10 * ((i : Int) + 1) + (k : Int)
/-- the calls of each thread: i Puts; k Gets each, one more of the threads below t -/
def cth (n i k t j : Nat) : List VCall := if j = 0 then (List.range i).map fun q => ⟨0, cargs n q⟩ else if j < 4 then List.replicate (if j < t then k + 1 else k) ⟨1, []⟩ else []
theorem cth_zero (n : Nat) : cth n 0 0 1 = fun _ => [] := by
  funext j
  unfold cth
  by_cases h : j = 0
  · rw [if_pos h]; rfl
  · rw [if_neg h, if_neg (by omega : ¬ j < 1)]; split <;> rfl
theorem cth_put (n i : Nat) : upd (cth n i 0 1) 0 (cth n i 0 1 0 ++ [⟨0, cargs n i⟩]) = cth n (i + 1) 0 1 := by
  funext j
  unfold upd cth
  by_cases h : j = 0
  · subst h; simp [List.range_succ]
  · simp [h]
theorem cth_get {n P k t : Nat} (h1 : 1 ≤ t) (h4 : t < 4) : upd (cth n P k t) t (cth n P k t t ++ [⟨1, []⟩]) = cth n P k (t + 1) := by
  funext j
  unfold upd cth
  by_cases h : j = t
  · subst h
    have h0 : ¬ j = 0 := by omega
    simp only [if_true, if_neg h0, if_pos h4, if_neg (Nat.lt_irrefl j), if_pos (Nat.lt_succ_self j)]
    rw [List.replicate_succ']
  · rw [if_neg h]
    by_cases h0 : j = 0
    · simp [h0]
    · by_cases h5 : j < t
      · simp [h0, h5, Nat.lt_succ_of_lt h5]
      · simp [h0, h5, show ¬ j < t + 1 by omega]
theorem cth_next (n P k : Nat) : cth n P k 4 = cth n P (k + 1) 1 := by
  funext j
  unfold cth
  by_cases h0 : j = 0
  · simp [h0]
  · by_cases h4 : j < 4
    · simp [h0, h4, show ¬ j < 1 by omega]
    · simp [h0, h4]
theorem cth_len (n i k t j : Nat) : (cth n i k t j).length ≤ max i (k + 1) := by
  unfold cth
  split
  · simp; omega
  · split
    · rw [List.length_replicate]; split <;> omega
    · simp
theorem cth_mem {n i k t j : Nat} (hn : n ≤ 6) : ∀ c ∈ cth n i k t j, c.code < 2 ∧ c.args.length ≤ 8 := by
  intro c hc
  unfold cth at hc
  split at hc
  · obtain ⟨q, _, rfl⟩ := List.mem_map.1 hc
    exact ⟨by show 0 < 2; decide, by show (cargs n q).length ≤ 8; unfold cargs; simp; omega⟩
  · split at hc
    · rw [List.eq_of_mem_replicate hc]; exact ⟨by decide, by decide⟩
    · cases hc
def cmach (n P G : Nat) : Mach := ⟨List.replicate (n + 1) 0, [cputCode n, cgetCode n], (List.range 4).map (cth n P G 1)⟩
theorem cput_len {n : Nat} (h1 : 1 ≤ n) (h6 : n ≤ 6) : (cputCode n).length = n + 6 := by
  rcases (show n = 1 ∨ n = 2 ∨ n = 3 ∨ n = 4 ∨ n = 5 ∨ n = 6 by omega) with rfl | rfl | rfl | rfl | rfl | rfl <;> rfl
theorem cget_len {n : Nat} (h1 : 1 ≤ n) (h6 : n ≤ 6) : (cgetCode n).length = 2 * n + 7 := by
  rcases (show n = 1 ∨ n = 2 ∨ n = 3 ∨ n = 4 ∨ n = 5 ∨ n = 6 by omega) with rfl | rfl | rfl | rfl | rfl | rfl <;> rfl
theorem cmach_at {B : Nat} {w : World} {Cb T n P G : Nat} {cv tv : Nat → Value} {av : Nat → List SV} (h : MN B w 2 4 Cb T cv (fun i => [cputCode n, cgetCode n].getD i []) tv (cth n P G 1) av) (h1 : 1 ≤ n) (h6 : n ≤ 6) (hP : P ≤ 20) (hG : G ≤ 19) : MachAt w (some ⟨Cb, 0, none⟩) 2 (some ⟨T, 0, none⟩) 4 (cmach n P G) := by
  refine h.at_ rfl rfl (fun i hi => ?_) (fun j hj => ?_)
  · rcases (show i = 0 ∨ i = 1 by omega) with rfl | rfl
    · exact ⟨by show (cputCode n).length ≤ 200; rw [cput_len h1 h6]; omega, cput_sh h1 h6⟩
    · exact ⟨by show (cgetCode n).length ≤ 200; rw [cget_len h1 h6]; omega, cget_sh h1 h6⟩
  · exact ⟨by have := cth_len n P G 1 j; omega, cth_mem h6⟩
def CellPost (w : World) (n P G : Nat) (e : Ending) (w' : World) : Prop :=
  ∃ (AW : Option Addr) (cW Cb T : Nat) (cv tv : Nat → Value) (av : Nat → List SV), e = .returned (.tuple #[.agg #[(.slice AW (n + 1) cW), .slice (some ⟨Cb, 0, none⟩) 2 2, .slice (some ⟨T, 0, none⟩) 4 4], .bool true]) ∧
    w'.ownsRow w.heap.size 3 1 (.slice AW (n + 1) cW) (n + 1) ((List.replicate (n + 1) (0 : Int)).flatMap gI) ∧ MN w.heap.size w' 2 4 Cb T cv (fun i => [cputCode n, cgetCode n].getD i []) tv (cth n P G 1) av ∧ Below w.heap.size w w'
set_option maxHeartbeats 8000000 in
set_option maxRecDepth 100000 in
theorem cell_machine (n P G : Nat) (w : World) (h1 : 1 ≤ n) (h6 : n ≤ 6) (hP : P ≤ 19) (hG : G ≤ 18) (hT : STab w) :
    Calls Tryd.prog 25 #[.int .i64 (n : Int), .int .i64 (P : Int), .int .i64 (G : Int)] w fun e w' => CellPost w n P G e w' := by
  have HT := hid hT
  have HWL := hid (show (List.replicate (n + 1) (0 : Int)).length = n + 1 by rw [List.length_replicate])
  clear hT
  go_enter Tryd.func25, Tryd.ntmps25
  go_wp2_with fail
  have HG := hid (Blk.new w 29 #[.slice none 0 0, .slice none 0 0, .slice none 0 0])
  have B0 := hid (bnew (bnil w) (.cells #[.slice none 0 0, .slice none 0 0, .slice none 0 0] 29))
  generalize World.alloc w (.cells #[.slice none 0 0, .slice none 0 0, .slice none 0 0] 29) = w0 at *
  refine (cell_words n w0 h1 h6).mono ?_
  rintro e w1 ⟨v1, rfl, o1⟩
  obtain ⟨AW, cW, rfl, hcW, hcW2⟩ := o1.form
  rw [HWL.out] at hcW ⊢
  have OW1 := hid (show w1.ownsRow w0.heap.size 3 1 (.slice AW (n + 1) cW) (n + 1) ((List.replicate (n + 1) (0 : Int)).flatMap gI) by have h := o1.own; rw [HWL.out] at h; exact h)
  have BW1 := hid o1.below
  clear o1
  go_wp2_with fail
  refine (cell_put n w1 h1 h6).mono ?_
  rintro e w2 ⟨v2, rfl, o2⟩
  obtain ⟨A1, c1, rfl, hc1, hc12⟩ := o2.form
  obtain ⟨L1, hL1⟩ : ∃ L, (cputCode n).length = L := ⟨_, rfl⟩
  have O2 := hid o2
  rw [hL1] at O2 hc1 ⊢
  have HL1 := hid hL1
  clear o2 hL1
  go_wp2_with fail
  refine (cell_get n w2 h1 h6).mono ?_
  rintro e w3 ⟨v3, rfl, o3⟩
  obtain ⟨A2, c2, rfl, hc2, hc22⟩ := o3.form
  obtain ⟨L2, hL2⟩ : ∃ L, (cgetCode n).length = L := ⟨_, rfl⟩
  have O3 := hid o3
  rw [hL2] at O3 hc2 ⊢
  have HL2 := hid hL2
  clear o3 hL2
  have B13 := hid (bgo (bgo BW1.out O2.out.below) O3.out.below)
  have B3 := hid (bgo B0.out B13.out)
  have HG3 := hid (HG.out.below' B13.out)
  have HW3 := hid (own_below (own_lower OW1.out B0.out.size) (bgo O2.out.below O3.out.below))
  have HC1 := hid (own_below (own_lower O2.out.own (bgo B0.out BW1.out).size) O3.out.below)
  have HC2 := hid (own_lower O3.out.own (bgo (bgo B0.out BW1.out) O2.out.below).size)
  clear HG B0 OW1 BW1 O2 O3 B13
  have hl1 := cput_len h1 h6
  have hl2 := cget_len h1 h6
  rw [HL1.out] at hl1
  rw [HL2.out] at hl2
  have jl1 : ((L1 : Int) == 0) = false := beqF (by omega)
  have jl2 : ((L2 : Int) == 0) = false := beqF (by omega)
  have il1 : ¬ ((L1 : Int) = 0) := by omega
  have il2 : ¬ ((L2 : Int) = 0) := by omega
  have HLL := hid (And.intro hl1 hl2)
  clear hl1 hl2
  obtain ⟨Cb, hCb⟩ : ∃ Cb, w3.heap.size = Cb := ⟨_, rfl⟩
  have hmk := mkT4 (w3.alloc (.cells #[.slice A1 L1 c1, .slice A2 L2 c2] 60))
  have BE := bnew (bnew (bnew (bnil w3) (.cells #[.slice A1 L1 c1, .slice A2 L2 c2] 60)) (.cells #[.slice none 0 0, .slice none 0 0, .slice none 0 0, .slice none 0 0] 33)) (.cells #[.slice AW (n + 1) cW, .slice (some ⟨Cb, 0, none⟩) 2 2, .slice (some ⟨Cb + 1, 0, none⟩) 4 4] 29)
  have HCB := hid ((blkN w3 60 #[.slice A1 L1 c1, .slice A2 L2 c2] Cb hCb).below' (bnew (bnew (bnil _) (.cells #[.slice none 0 0, .slice none 0 0, .slice none 0 0, .slice none 0 0] 33)) (.cells #[.slice AW (n + 1) cW, .slice (some ⟨Cb, 0, none⟩) 2 2, .slice (some ⟨Cb + 1, 0, none⟩) 4 4] 29)))
  have HTB := hid ((blkN (w3.alloc (.cells #[.slice A1 L1 c1, .slice A2 L2 c2] 60)) 33 #[.slice none 0 0, .slice none 0 0, .slice none 0 0, .slice none 0 0] (Cb + 1) (by rw [World.size_alloc, hCb])).below' (bnew (bnil _) (.cells #[.slice AW (n + 1) cW, .slice (some ⟨Cb, 0, none⟩) 2 2, .slice (some ⟨Cb + 1, 0, none⟩) 4 4] 29)))
  have HXB := hid (blkN ((w3.alloc (.cells #[.slice A1 L1 c1, .slice A2 L2 c2] 60)).alloc (.cells #[.slice none 0 0, .slice none 0 0, .slice none 0 0, .slice none 0 0] 33)) 29 #[.slice AW (n + 1) cW, .slice (some ⟨Cb, 0, none⟩) 2 2, .slice (some ⟨Cb + 1, 0, none⟩) 4 4] (Cb + 2) (by rw [World.size_alloc, World.size_alloc, hCb]))
  have B3E := hid BE
  clear BE
  go_upto_region 7 with fail
  have hBC : w.heap.size ≤ Cb := by rw [← hCb]; exact B3.out.size
  have BW := hid (bgo B3.out B3E.out)
  have HGE := hid (HG3.out.below' B3E.out)
  have HWE := hid (own_below HW3.out B3E.out)
  have HC1E := hid (own_below HC1.out B3E.out)
  have HC2E := hid (own_below HC2.out B3E.out)
  clear hmk B3 HG3 HW3 HC1 HC2 B3E hCb
  generalize World.alloc (World.alloc (World.alloc w3 _) _) _ = wE at *
  obtain ⟨T, hT⟩ : ∃ T, Cb + 1 = T := ⟨_, rfl⟩
  rw [hT] at HTB HXB ⊢
  obtain ⟨X, hX⟩ : ∃ X, T + 1 = X := ⟨_, rfl⟩
  rw [hX]
  rw [show Cb + 2 = X by omega] at HXB
  have hTw : w.heap.size ≤ T := by omega
  have hXR : X ≠ w.heap.size := by omega
  have BU := hid (show MBun w wE w.heap.size nil3 w.heap.size X Cb T 2 4 (.slice AW (n + 1) cW) (List.replicate (n + 1) (0 : Int)) (fun i => [.slice A1 L1 c1, .slice A2 L2 c2].getD i undef) (fun i => [cputCode n, cgetCode n].getD i []) _ (cth n 0 0 1) (fun _ => []) from
    ⟨BW.out, HGE.out, HGE.out, HXB.out, by rw [HWL.out]; exact HWE.out, by
      rw [cth_zero]
      exact MN.start (v := fun _ => undef) hBC hTw HCB.out HTB.out (fun i hi => (by
        rcases (show i = 0 ∨ i = 1 by omega) with rfl | rfl
        · have h := HC1E.out; rw [HL1.out] at h; show wE.ownsRow w.heap.size 99 5 (.slice A1 L1 c1) (cputCode n).length _; rw [HL1.out]; exact h
        · have h := HC2E.out; rw [HL2.out] at h; show wE.ownsRow w.heap.size 99 5 (.slice A2 L2 c2) (cgetCode n).length _; rw [HL2.out]; exact h))⟩)
  clear BW HGE HXB HWE HCB HTB HC1E HC2E hT hX hBC
  go_wp2_with fail
  go_loopw [15] (fun v wx => ∃ (i : Nat) (tv : Nat → Value) (av : Nat → List SV), i ≤ P ∧ v = .int .i64 i ∧ Hid (MBun w wx w.heap.size nil3 w.heap.size X Cb T 2 4 (.slice AW (n + 1) cW) (List.replicate (n + 1) (0 : Int)) (fun i => [.slice A1 L1 c1, .slice A2 L2 c2].getD i undef) (fun i => [cputCode n, cgetCode n].getD i []) tv (cth n i 0 1) av)) (fun v _ => P - (intOf v).toNat)
  case atStart => exact ⟨0, _, _, Nat.zero_le _, rfl, BU⟩
  case round =>
    clear BU
    obtain ⟨i, tv, av, hiP, rfl, HX⟩ := hrel
    by_cases hlt : i < P
    · have i1 : (i : Int) < (P : Int) := by omega
      go_wp2_with fail
      obtain ⟨wo, hwo⟩ : ∃ wo, wo = wr := ⟨_, rfl⟩
      subst hwo
      go_loopw [16, 17] (fun u v wz => ∃ (k : Nat) (Aa : Option Addr) (ca : Nat), k ≤ n ∧ v = .int .i64 k ∧ u = .slice Aa k ca ∧ Hid (Ow wo wz 3 1 gI (.slice Aa k ca) (cargs k i))) (fun _ v _ => n - (intOf v).toNat)
      case atStart => exact ⟨0, none, 0, Nat.zero_le _, rfl, rfl, hid (Ow.nil _ _ _ _)⟩
      case round =>
        obtain ⟨k, Aa, ca, hk, rfl, rfl, HO⟩ := hrel
        by_cases hlk : k < n
        · have i2 : (k : Int) < (n : Int) := by omega
          have HLK := hid (show (cargs k i).length = k by unfold cargs; simp)
          obtain ⟨y, hy⟩ : ∃ y, cargs k i ++ [10 * ((i : Int) + 1) + (k : Int)] = y := ⟨_, rfl⟩
          have HY := hid hy
          have HYE := hid (show y = cargs (k + 1) i by rw [← hy]; unfold cargs; rw [List.range_succ, List.map_append]; rfl)
          have HYL := hid (show y.length = k + 1 by rw [HYE.out]; unfold cargs; simp)
          clear hy
          go_wp2_with (at_builtin; refine wpList_appY elmI gI_one rfl (.tmp 72) (.tmp 78) rfl (.slice Aa k ca) (cargs k i) rfl (HO.out.alloc _) [10 * ((i : Int) + 1) + (k : Int)] y HY rfl (Sl.fresh' _ #[_] 3 1 1 _ rfl rfl) rfl (by rw [HYL.out]; simp only [maxLen]; omega) (by rw [HYL.out]; omega) ?_; intro A4 c4 w4 hc4 hc5 HN4 _ _)
          go_roundw
          case rel => exact ⟨k + 1, A4, c4, by omega, by go_num, by rw [HYL.out], hid (by have h := HN4.out; rw [HYL.out] at h; rw [← HYE.out]; exact h)⟩
          case measure => simp [intOf]; omega
        · obtain rfl : n = k := by omega
          have i2 : ¬ (n : Int) < (n : Int) := by omega
          have HXZ := hid (HX.out.step HO.out.below)
          have HOA := hid (own_lower HO.out.own HX.out.below.size)
          have HLN := hid (show (cth n i 0 1 0).length ≤ 20 by have := cth_len n i 0 1 0; omega)
          have HOF := hid (show ∀ (k' : Nat) (c : VCall) (a : SV), ([⟨0, cargs n i⟩] : List VCall)[k']? = some c → ([(⟨Aa, n, ca⟩ : SV)] : List SV)[k']? = some a → ((wr.alloc (.cells #[.int .i64 0, .slice Aa n ca] 35)).drew).ownsRow w.heap.size 3 1 a.v c.args.length (c.args.flatMap gI) from fun k' c a hc ha => by
            rw [List.getElem?_singleton] at hc ha
            split at hc
            · rename_i h; rw [if_pos h] at ha
              injection hc with hc; injection ha with ha
              subst hc ha
              exact own_below HOA.out (bnew (bnil _) _).drew
            · cases hc)
          obtain ⟨Aj, cj, hAj, HR0⟩ := HXZ.out.row (j := 0) (by omega)
          obtain ⟨L, hL⟩ : ∃ L, ((cth n i 0 1) 0).length = L := ⟨_, rfl⟩
          rw [hL] at hAj HR0
          have hL18 : L ≤ 20 := by rw [← hL]; exact HLN.out
          obtain ⟨y, hy⟩ : ∃ y, ((cth n i 0 1) 0).zip (av 0) ++ [((⟨0, cargs n i⟩ : VCall), ((⟨Aa, n, ca⟩ : SV) : SV))] = y := ⟨_, rfl⟩
          have HYE := hid hy
          have HYL := hid (show y.length = L + 1 by rw [← hy, List.length_append, HR0.len]; rfl)
          have HR := hid HR0
          have HAJ := hid hAj
          have c2x := HR.out.c2; have c3 := HR.out.c3; have f3 := HR.out.f3; have hcj := HR.out.hcj; have hcm := HR.out.hcm
          unfold maxLen at hcm
          clear hy HR0 hAj hL
          have ltT := World.block_lt_of_cell? wr _ c3
          have ltX := World.block_lt_of_cell? wr _ c2x
          go_upto_region 15 with fail
          refine wp_region_held_drew (S := (fun w' => w'.cell? ⟨X, 2, none⟩ = some (.slice (some ⟨T, 0, none⟩) 4 4) ∧ w'.frozen? ⟨T, 0, none⟩ = false)) (by kernel_rfl) ?_ (fun hHeld => ?_)
          · (try dsimp only); (first | assumption | exact ⟨c2x, f3⟩ | exact HZ.1 | exact HZ.2.2 _ | (refine sees2f ?_ c2x c3 f3; (repeat (first | exact bnil _ | refine Below.drew ?_ | refine bnew ?_ _))))
          refine wpAnyH_take (i := 0) (oi := ⟨some 80, _, _, _, _, _⟩) (v := ?_) rfl (by kernel_rfl) (by kernel_rfl) (by kernel_rfl) (fun _ _ _ h => h) (Or.inl ⟨by rfl, ?_⟩) (by assumption) ?_
          rotate_left
          · intro w hSw; (try dsimp only at hSw); go_simp <;> with_reducible rfl
          try simp only [Act.put, List.setIfInBounds_toArray, List.set_cons_zero, List.set_cons_succ]
          refine wpAnyH_take (i := 1) (oi := ⟨some 81, _, _, _, _, _⟩) (v := ?_) rfl (by kernel_rfl) (by kernel_rfl) (by kernel_rfl) (fun _ _ _ h => h) (Or.inl ⟨by rfl, ?_⟩) (by assumption) ?_
          rotate_left
          · intro w hSw; (try dsimp only at hSw); go_simp <;> with_reducible rfl
          try simp only [Act.put, List.setIfInBounds_toArray, List.set_cons_zero, List.set_cons_succ]
          refine wpAnyH_take (i := 2) (oi := ⟨some 82, _, _, _, _, _⟩) (v := ?_) rfl (by kernel_rfl) (by kernel_rfl) (by kernel_rfl) (fun _ _ _ h => h) (Or.inl ⟨by rfl, ?_⟩) (by assumption) ?_
          rotate_left
          · intro w hSw; (try dsimp only at hSw); go_simp <;> with_reducible rfl
          try simp only [Act.put, List.setIfInBounds_toArray, List.set_cons_zero, List.set_cons_succ]
          refine wpAnyH_take (i := 3) (oi := ⟨some 83, _, _, _, _, _⟩) (v := ?_) rfl (by kernel_rfl) (by kernel_rfl) (by kernel_rfl) (fun _ _ _ h => h) (Or.inl ⟨by rfl, ?_⟩) (by assumption) ?_
          rotate_left
          · intro w hSw; (try dsimp only at hSw); go_simp <;> with_reducible rfl
          try simp only [Act.put, List.setIfInBounds_toArray, List.set_cons_zero, List.set_cons_succ]
          refine wpAnyH_take (i := 4) (oi := ⟨some 84, _, _, _, _, _⟩) (v := ?_) rfl (by kernel_rfl) (by kernel_rfl) (by kernel_rfl) (fun _ _ _ h => h) (Or.inl ⟨by rfl, ?_⟩) (by assumption) ?_
          rotate_left
          · intro w hSw; (try dsimp only at hSw); go_simp <;> with_reducible rfl
          try simp only [Act.put, List.setIfInBounds_toArray, List.set_cons_zero, List.set_cons_succ]
          refine wpAnyH_take (i := 6) (oi := ⟨some 86, _, _, _, _, _⟩) (v := ?_) rfl (by kernel_rfl) (by kernel_rfl) (by kernel_rfl) (fun _ _ _ h => h) (Or.inl ⟨by rfl, ?_⟩) (by assumption) ?_
          rotate_left
          · intro w hSw; (try dsimp only at hSw); go_simp <;> with_reducible rfl
          try simp only [Act.put, List.setIfInBounds_toArray, List.set_cons_zero, List.set_cons_succ]
          refine wpAnyH_take (i := 7) (oi := ⟨some 87, _, _, _, _, _⟩) (v := ?_) rfl (by kernel_rfl) (by kernel_rfl) (by kernel_rfl) (fun _ _ _ h => h) (Or.inl ⟨by rfl, ?_⟩) (by assumption) ?_
          rotate_left
          · intro w hSw; (try dsimp only at hSw); go_simp <;> with_reducible rfl
          try simp only [Act.put, List.setIfInBounds_toArray, List.set_cons_zero, List.set_cons_succ]
          refine wpAnyH_ready (rs := [5, 8]) (by kernel_rfl) (by simp) ?_
          refine AllReadyH.cons (o := ⟨some 85, _, _, _, _, _⟩) rfl (fun K hK => ?_) ?_
          go_simp
          refine hK.out _ _ ?_ (fun hHeld => ?_)
          · (try dsimp only); (first | assumption | exact ⟨c2x, f3⟩ | exact HZ.1 | exact HZ.2.2 _ | (refine sees2f ?_ c2x c3 f3; (repeat (first | exact bnil _ | refine Below.drew ?_ | refine bnew ?_ _))))
          clear hK K
          try simp only [Act.put, List.setIfInBounds_toArray, List.set_cons_zero, List.set_cons_succ]
          refine wpAnyH_ready (rs := [8]) (by kernel_rfl) (by simp) ?_
          refine AllReadyH.cons (o := ⟨some 88, _, _, _, _, _⟩) rfl (fun K hK => ?_) AllReadyH.nil
          go_simp
          refine hK.out _ _ ?_ (fun hHeld => ?_)
          · (try dsimp only); (first | assumption | exact ⟨c2x, f3⟩ | exact HZ.1 | exact HZ.2.2 _ | (refine sees2f ?_ c2x c3 f3; (repeat (first | exact bnil _ | refine Below.drew ?_ | refine bnew ?_ _))))
          clear hK K
          try simp only [Act.put, List.setIfInBounds_toArray, List.set_cons_zero, List.set_cons_succ]
          refine wpAnyH_ready (rs := [9]) (by kernel_rfl) (by simp) ?_
          refine AllReadyH.cons (o := ⟨some 89, _, _, _, _, _⟩) rfl (fun K hK => ?_) AllReadyH.nil
          (refine step_appC elmCN gS_one rfl (.tmp 85) (.tmp 88) rfl (.slice Aj L cj) (((cth n i 0 1) 0).zip (av 0)) rfl (HR.out.row _ (bnew (bnil _) _).drew) [((⟨0, cargs n i⟩ : VCall), ((⟨Aa, n, ca⟩ : SV) : SV))] y HYE rfl (Sl.drew (Sl.fresh' _ #[_, _] 35 2 1 _ (by simp) rfl)) rfl (by rw [HYL.out]; simp only [maxLen]; omega) (by rw [HYL.out]; omega) (Nat.le_trans HR.out.size (bnew (bnil _) _).drew.size) ?_; intro E6 c6 w6 hc6 hc7 HN6 HG6 HO6; have HZ := HR.out.grow _ w6 (bnew (bnil _) _).drew HG6.out)
          refine hK.out _ _ ?_ (fun hHeld => ?_)
          · (try dsimp only); (first | assumption | exact ⟨c2x, f3⟩ | exact HZ.1 | exact HZ.2.2 _ | (refine sees2f ?_ c2x c3 f3; (repeat (first | exact bnil _ | refine Below.drew ?_ | refine bnew ?_ _))))
          clear hK K
          try simp only [Act.put, List.setIfInBounds_toArray, List.set_cons_zero, List.set_cons_succ]
          refine wpAnyH_take (i := 10) (oi := ⟨some 90, _, _, _, _, _⟩) (v := ?_) rfl (by kernel_rfl) (by kernel_rfl) (by kernel_rfl) (fun _ _ _ h => h) (Or.inl ⟨by rfl, ?_⟩) (by assumption) ?_
          rotate_left
          · intro w hSw; (try dsimp only at hSw); go_simp <;> with_reducible rfl
          try simp only [Act.put, List.setIfInBounds_toArray, List.set_cons_zero, List.set_cons_succ]
          refine wpAnyH_ready (rs := [11]) (by kernel_rfl) (by simp) ?_
          refine AllReadyH.cons (o := ⟨none, _, _, _, _, _⟩) rfl (fun K hK => ?_) AllReadyH.nil
          go_simp
          refine hK.out _ _ ?_ (fun hHeld => ?_)
          · (try dsimp only); (first | assumption | exact ⟨c2x, f3⟩ | exact HZ.1 | exact HZ.2.2 _ | (refine sees2f ?_ c2x c3 f3; (repeat (first | exact bnil _ | refine Below.drew ?_ | refine bnew ?_ _))))
          clear hK K
          try dsimp only [Act.put]
          refine wpAnyH_done (by kernel_rfl) ?_ _
          rotate_left
          refine AllReadyH.cons (o := ⟨some 88, _, _, _, _, _⟩) rfl (fun K hK => ?_) AllReadyH.nil
          go_simp
          refine hK.out _ _ ?_ (fun hHeld => ?_)
          · (try dsimp only); (first | assumption | exact ⟨c2x, f3⟩ | exact HZ.1 | exact HZ.2.2 _ | (refine sees2f ?_ c2x c3 f3; (repeat (first | exact bnil _ | refine Below.drew ?_ | refine bnew ?_ _))))
          clear hK K
          try simp only [Act.put, List.setIfInBounds_toArray, List.set_cons_zero, List.set_cons_succ]
          refine wpAnyH_ready (rs := [5]) (by kernel_rfl) (by simp) ?_
          refine AllReadyH.cons (o := ⟨some 85, _, _, _, _, _⟩) rfl (fun K hK => ?_) AllReadyH.nil
          go_simp
          refine hK.out _ _ ?_ (fun hHeld => ?_)
          · (try dsimp only); (first | assumption | exact ⟨c2x, f3⟩ | exact HZ.1 | exact HZ.2.2 _ | (refine sees2f ?_ c2x c3 f3; (repeat (first | exact bnil _ | refine Below.drew ?_ | refine bnew ?_ _))))
          clear hK K
          try simp only [Act.put, List.setIfInBounds_toArray, List.set_cons_zero, List.set_cons_succ]
          refine wpAnyH_ready (rs := [9]) (by kernel_rfl) (by simp) ?_
          refine AllReadyH.cons (o := ⟨some 89, _, _, _, _, _⟩) rfl (fun K hK => ?_) AllReadyH.nil
          (refine step_appC elmCN gS_one rfl (.tmp 85) (.tmp 88) rfl (.slice Aj L cj) (((cth n i 0 1) 0).zip (av 0)) rfl (HR.out.row _ (bnew (bnil _) _).drew) [((⟨0, cargs n i⟩ : VCall), ((⟨Aa, n, ca⟩ : SV) : SV))] y HYE rfl (Sl.drew (Sl.fresh' _ #[_, _] 35 2 1 _ (by simp) rfl)) rfl (by rw [HYL.out]; simp only [maxLen]; omega) (by rw [HYL.out]; omega) (Nat.le_trans HR.out.size (bnew (bnil _) _).drew.size) ?_; intro E6 c6 w6 hc6 hc7 HN6 HG6 HO6; have HZ := HR.out.grow _ w6 (bnew (bnil _) _).drew HG6.out)
          refine hK.out _ _ ?_ (fun hHeld => ?_)
          · (try dsimp only); (first | assumption | exact ⟨c2x, f3⟩ | exact HZ.1 | exact HZ.2.2 _ | (refine sees2f ?_ c2x c3 f3; (repeat (first | exact bnil _ | refine Below.drew ?_ | refine bnew ?_ _))))
          clear hK K
          try simp only [Act.put, List.setIfInBounds_toArray, List.set_cons_zero, List.set_cons_succ]
          refine wpAnyH_take (i := 10) (oi := ⟨some 90, _, _, _, _, _⟩) (v := ?_) rfl (by kernel_rfl) (by kernel_rfl) (by kernel_rfl) (fun _ _ _ h => h) (Or.inl ⟨by rfl, ?_⟩) (by assumption) ?_
          rotate_left
          · intro w hSw; (try dsimp only at hSw); go_simp <;> with_reducible rfl
          try simp only [Act.put, List.setIfInBounds_toArray, List.set_cons_zero, List.set_cons_succ]
          refine wpAnyH_ready (rs := [11]) (by kernel_rfl) (by simp) ?_
          refine AllReadyH.cons (o := ⟨none, _, _, _, _, _⟩) rfl (fun K hK => ?_) AllReadyH.nil
          go_simp
          refine hK.out _ _ ?_ (fun hHeld => ?_)
          · (try dsimp only); (first | assumption | exact ⟨c2x, f3⟩ | exact HZ.1 | exact HZ.2.2 _ | (refine sees2f ?_ c2x c3 f3; (repeat (first | exact bnil _ | refine Below.drew ?_ | refine bnew ?_ _))))
          clear hK K
          try dsimp only [Act.put]
          refine wpAnyH_done (by kernel_rfl) ?_ _
          rotate_left
          all_goals
            have HF := hid (HXZ.out.app (j := 0) (by omega) [⟨0, cargs n i⟩] [(⟨Aa, n, ca⟩ : SV)] (bnew (bnil _) _).drew rfl HOF.out HYE.out (by rw [HAJ.out]; exact HG6.out) (by rw [HAJ.out]; exact HO6.out) HN6.out)
            clear HZ HG6 HO6 HN6
            go_wp2_with fail
            go_roundw
            case rel => exact ⟨i + 1, _, _, by omega, by go_num, hid (by have h1 := HF.out; rw [cth_put] at h1; exact h1)⟩
            case measure => simp [intOf]; omega
    · obtain rfl : P = i := by omega
      have i1 : ¬ (P : Int) < (P : Int) := by omega
      go_wp2_with fail
      go_loopw [18] (fun v wx => ∃ (k : Nat) (tv : Nat → Value) (av : Nat → List SV), k ≤ G ∧ v = .int .i64 k ∧ Hid (MBun w wx w.heap.size nil3 w.heap.size X Cb T 2 4 (.slice AW (n + 1) cW) (List.replicate (n + 1) (0 : Int)) (fun i => [.slice A1 L1 c1, .slice A2 L2 c2].getD i undef) (fun i => [cputCode n, cgetCode n].getD i []) tv (cth n P k 1) av)) (fun v _ => G - (intOf v).toNat)
      case atStart => exact ⟨0, _, _, Nat.zero_le _, rfl, HX⟩
      case round =>
        clear HX
        clear tv av
        obtain ⟨k, tv, av, hkG, rfl, HX⟩ := hrel
        by_cases hkl : k < G
        · have i2 : (k : Int) < (G : Int) := by omega
          go_wp2_with fail
          go_loopw [19] (fun v wx => ∃ (t : Nat) (tv : Nat → Value) (av : Nat → List SV), 1 ≤ t ∧ t ≤ 4 ∧ v = .int .i64 t ∧ Hid (MBun w wx w.heap.size nil3 w.heap.size X Cb T 2 4 (.slice AW (n + 1) cW) (List.replicate (n + 1) (0 : Int)) (fun i => [.slice A1 L1 c1, .slice A2 L2 c2].getD i undef) (fun i => [cputCode n, cgetCode n].getD i []) tv (cth n P k t) av)) (fun v _ => 4 - (intOf v).toNat)
          case atStart => exact ⟨1, tv, av, Nat.le_refl _, by decide, rfl, HX⟩
          case round =>
            clear HX
            clear tv av
            obtain ⟨t, tv, av, it1, ht4, rfl, HX⟩ := hrel
            by_cases hlt3 : t < 4
            · have i3 : (t : Int) < 4 := by omega
              have i4 : (0 : Int) ≤ (t : Int) := by omega
              have HLN := hid (show (cth n P k t t).length ≤ 20 by have := cth_len n P k t t; omega)
              have HOF := hid (show ∀ (k' : Nat) (c : VCall) (a : SV), ([⟨1, []⟩] : List VCall)[k']? = some c → ([(⟨none, 0, 0⟩ : SV)] : List SV)[k']? = some a → ((wr.alloc (.cells #[.int .i64 1, .slice none 0 0] 35)).drew).ownsRow w.heap.size 3 1 a.v c.args.length (c.args.flatMap gI) from fun k' c a hc ha => by
                rw [List.getElem?_singleton] at hc ha
                split at hc
                · rename_i h; rw [if_pos h] at ha
                  injection hc with hc; injection ha with ha
                  subst hc ha
                  exact own0 _ _ _ 1
                · cases hc)
              obtain ⟨Aj, cj, hAj, HR0⟩ := HX.out.row (j := t) (by omega)
              obtain ⟨L, hL⟩ : ∃ L, ((cth n P k t) t).length = L := ⟨_, rfl⟩
              rw [hL] at hAj HR0
              have hL18 : L ≤ 20 := by rw [← hL]; exact HLN.out
              obtain ⟨y, hy⟩ : ∃ y, ((cth n P k t) t).zip (av t) ++ [((⟨1, []⟩ : VCall), ((⟨none, 0, 0⟩ : SV) : SV))] = y := ⟨_, rfl⟩
              have HYE := hid hy
              have HYL := hid (show y.length = L + 1 by rw [← hy, List.length_append, HR0.len]; rfl)
              have HR := hid HR0
              have HAJ := hid hAj
              have c2x := HR.out.c2; have c3 := HR.out.c3; have f3 := HR.out.f3; have hcj := HR.out.hcj; have hcm := HR.out.hcm
              unfold maxLen at hcm
              clear hy HR0 hAj hL
              have ltT := World.block_lt_of_cell? wr _ c3
              have ltX := World.block_lt_of_cell? wr _ c2x
              go_upto_region 22 with fail
              refine wp_region_held_drew (S := (fun w' => w'.cell? ⟨X, 2, none⟩ = some (.slice (some ⟨T, 0, none⟩) 4 4) ∧ w'.frozen? ⟨T, t, none⟩ = false)) (by kernel_rfl) ?_ (fun hHeld => ?_)
              · (try dsimp only); (first | assumption | exact ⟨c2x, f3⟩ | exact HZ.1 | exact HZ.2.2 _ | (refine sees2f ?_ c2x c3 f3; (repeat (first | exact bnil _ | refine Below.drew ?_ | refine bnew ?_ _))))
              refine wpAnyH_take (i := 0) (oi := ⟨some 100, _, _, _, _, _⟩) (v := ?_) rfl (by kernel_rfl) (by kernel_rfl) (by kernel_rfl) (fun _ _ _ h => h) (Or.inl ⟨by rfl, ?_⟩) (by assumption) ?_
              rotate_left
              · intro w hSw; (try dsimp only at hSw); go_simp <;> with_reducible rfl
              try simp only [Act.put, List.setIfInBounds_toArray, List.set_cons_zero, List.set_cons_succ]
              refine wpAnyH_take (i := 1) (oi := ⟨some 101, _, _, _, _, _⟩) (v := ?_) rfl (by kernel_rfl) (by kernel_rfl) (by kernel_rfl) (fun _ _ _ h => h) (Or.inl ⟨by rfl, ?_⟩) (by assumption) ?_
              rotate_left
              · intro w hSw; (try dsimp only at hSw); go_simp <;> with_reducible rfl
              try simp only [Act.put, List.setIfInBounds_toArray, List.set_cons_zero, List.set_cons_succ]
              refine wpAnyH_take (i := 2) (oi := ⟨some 102, _, _, _, _, _⟩) (v := ?_) rfl (by kernel_rfl) (by kernel_rfl) (by kernel_rfl) (fun _ _ _ h => h) (Or.inl ⟨by rfl, ?_⟩) (by assumption) ?_
              rotate_left
              · intro w hSw; (try dsimp only at hSw); go_simp <;> with_reducible rfl
              try simp only [Act.put, List.setIfInBounds_toArray, List.set_cons_zero, List.set_cons_succ]
              refine wpAnyH_take (i := 3) (oi := ⟨some 103, _, _, _, _, _⟩) (v := ?_) rfl (by kernel_rfl) (by kernel_rfl) (by kernel_rfl) (fun _ _ _ h => h) (Or.inl ⟨by rfl, ?_⟩) (by assumption) ?_
              rotate_left
              · intro w hSw; (try dsimp only at hSw); go_simp <;> with_reducible rfl
              try simp only [Act.put, List.setIfInBounds_toArray, List.set_cons_zero, List.set_cons_succ]
              refine wpAnyH_take (i := 4) (oi := ⟨some 104, _, _, _, _, _⟩) (v := ?_) rfl (by kernel_rfl) (by kernel_rfl) (by kernel_rfl) (fun _ _ _ h => h) (Or.inl ⟨by rfl, ?_⟩) (by assumption) ?_
              rotate_left
              · intro w hSw; (try dsimp only at hSw); go_simp <;> with_reducible rfl
              try simp only [Act.put, List.setIfInBounds_toArray, List.set_cons_zero, List.set_cons_succ]
              refine wpAnyH_take (i := 5) (oi := ⟨some 105, _, _, _, _, _⟩) (v := ?_) rfl (by kernel_rfl) (by kernel_rfl) (by kernel_rfl) (fun _ _ _ h => h) (Or.inl ⟨by rfl, ?_⟩) (by assumption) ?_
              rotate_left
              · intro w hSw; (try dsimp only at hSw); go_simp <;> with_reducible rfl
              try simp only [Act.put, List.setIfInBounds_toArray, List.set_cons_zero, List.set_cons_succ]
              refine wpAnyH_take (i := 6) (oi := ⟨some 106, _, _, _, _, _⟩) (v := ?_) rfl (by kernel_rfl) (by kernel_rfl) (by kernel_rfl) (fun _ _ _ h => h) (Or.inl ⟨by rfl, ?_⟩) (by assumption) ?_
              rotate_left
              · intro w hSw; (try dsimp only at hSw); go_simp <;> with_reducible rfl
              try simp only [Act.put, List.setIfInBounds_toArray, List.set_cons_zero, List.set_cons_succ]
              refine wpAnyH_take (i := 8) (oi := ⟨some 108, _, _, _, _, _⟩) (v := ?_) rfl (by kernel_rfl) (by kernel_rfl) (by kernel_rfl) (fun _ _ _ h => h) (Or.inl ⟨by rfl, ?_⟩) (by assumption) ?_
              rotate_left
              · intro w hSw; (try dsimp only at hSw); go_simp <;> with_reducible rfl
              try simp only [Act.put, List.setIfInBounds_toArray, List.set_cons_zero, List.set_cons_succ]
              refine wpAnyH_ready (rs := [7, 9]) (by kernel_rfl) (by simp) ?_
              refine AllReadyH.cons (o := ⟨some 107, _, _, _, _, _⟩) rfl (fun K hK => ?_) ?_
              go_simp
              refine hK.out _ _ ?_ (fun hHeld => ?_)
              · (try dsimp only); (first | assumption | exact ⟨c2x, f3⟩ | exact HZ.1 | exact HZ.2.2 _ | (refine sees2f ?_ c2x c3 f3; (repeat (first | exact bnil _ | refine Below.drew ?_ | refine bnew ?_ _))))
              clear hK K
              try simp only [Act.put, List.setIfInBounds_toArray, List.set_cons_zero, List.set_cons_succ]
              refine wpAnyH_ready (rs := [9]) (by kernel_rfl) (by simp) ?_
              refine AllReadyH.cons (o := ⟨some 109, _, _, _, _, _⟩) rfl (fun K hK => ?_) AllReadyH.nil
              go_simp
              refine hK.out _ _ ?_ (fun hHeld => ?_)
              · (try dsimp only); (first | assumption | exact ⟨c2x, f3⟩ | exact HZ.1 | exact HZ.2.2 _ | (refine sees2f ?_ c2x c3 f3; (repeat (first | exact bnil _ | refine Below.drew ?_ | refine bnew ?_ _))))
              clear hK K
              try simp only [Act.put, List.setIfInBounds_toArray, List.set_cons_zero, List.set_cons_succ]
              refine wpAnyH_ready (rs := [10]) (by kernel_rfl) (by simp) ?_
              refine AllReadyH.cons (o := ⟨some 110, _, _, _, _, _⟩) rfl (fun K hK => ?_) AllReadyH.nil
              (refine step_appC elmCN gS_one rfl (.tmp 107) (.tmp 109) rfl (.slice Aj L cj) (((cth n P k t) t).zip (av t)) rfl (HR.out.row _ (bnew (bnil _) _).drew) [((⟨1, []⟩ : VCall), ((⟨none, 0, 0⟩ : SV) : SV))] y HYE rfl (Sl.drew (Sl.fresh' _ #[_, _] 35 2 1 _ (by simp) rfl)) rfl (by rw [HYL.out]; simp only [maxLen]; omega) (by rw [HYL.out]; omega) (Nat.le_trans HR.out.size (bnew (bnil _) _).drew.size) ?_; intro E6 c6 w6 hc6 hc7 HN6 HG6 HO6; have HZ := HR.out.grow _ w6 (bnew (bnil _) _).drew HG6.out)
              refine hK.out _ _ ?_ (fun hHeld => ?_)
              · (try dsimp only); (first | assumption | exact ⟨c2x, f3⟩ | exact HZ.1 | exact HZ.2.2 _ | (refine sees2f ?_ c2x c3 f3; (repeat (first | exact bnil _ | refine Below.drew ?_ | refine bnew ?_ _))))
              clear hK K
              try simp only [Act.put, List.setIfInBounds_toArray, List.set_cons_zero, List.set_cons_succ]
              refine wpAnyH_take (i := 11) (oi := ⟨some 111, _, _, _, _, _⟩) (v := ?_) rfl (by kernel_rfl) (by kernel_rfl) (by kernel_rfl) (fun _ _ _ h => h) (Or.inl ⟨by rfl, ?_⟩) (by assumption) ?_
              rotate_left
              · intro w hSw; (try dsimp only at hSw); go_simp <;> with_reducible rfl
              try simp only [Act.put, List.setIfInBounds_toArray, List.set_cons_zero, List.set_cons_succ]
              refine wpAnyH_ready (rs := [12]) (by kernel_rfl) (by simp) ?_
              refine AllReadyH.cons (o := ⟨none, _, _, _, _, _⟩) rfl (fun K hK => ?_) AllReadyH.nil
              go_simp
              refine hK.out _ _ ?_ (fun hHeld => ?_)
              · (try dsimp only); (first | assumption | exact ⟨c2x, f3⟩ | exact HZ.1 | exact HZ.2.2 _ | (refine sees2f ?_ c2x c3 f3; (repeat (first | exact bnil _ | refine Below.drew ?_ | refine bnew ?_ _))))
              clear hK K
              try dsimp only [Act.put]
              refine wpAnyH_done (by kernel_rfl) ?_ _
              rotate_left
              refine AllReadyH.cons (o := ⟨some 109, _, _, _, _, _⟩) rfl (fun K hK => ?_) AllReadyH.nil
              go_simp
              refine hK.out _ _ ?_ (fun hHeld => ?_)
              · (try dsimp only); (first | assumption | exact ⟨c2x, f3⟩ | exact HZ.1 | exact HZ.2.2 _ | (refine sees2f ?_ c2x c3 f3; (repeat (first | exact bnil _ | refine Below.drew ?_ | refine bnew ?_ _))))
              clear hK K
              try simp only [Act.put, List.setIfInBounds_toArray, List.set_cons_zero, List.set_cons_succ]
              refine wpAnyH_ready (rs := [7]) (by kernel_rfl) (by simp) ?_
              refine AllReadyH.cons (o := ⟨some 107, _, _, _, _, _⟩) rfl (fun K hK => ?_) AllReadyH.nil
              go_simp
              refine hK.out _ _ ?_ (fun hHeld => ?_)
              · (try dsimp only); (first | assumption | exact ⟨c2x, f3⟩ | exact HZ.1 | exact HZ.2.2 _ | (refine sees2f ?_ c2x c3 f3; (repeat (first | exact bnil _ | refine Below.drew ?_ | refine bnew ?_ _))))
              clear hK K
              try simp only [Act.put, List.setIfInBounds_toArray, List.set_cons_zero, List.set_cons_succ]
              refine wpAnyH_ready (rs := [10]) (by kernel_rfl) (by simp) ?_
              refine AllReadyH.cons (o := ⟨some 110, _, _, _, _, _⟩) rfl (fun K hK => ?_) AllReadyH.nil
              (refine step_appC elmCN gS_one rfl (.tmp 107) (.tmp 109) rfl (.slice Aj L cj) (((cth n P k t) t).zip (av t)) rfl (HR.out.row _ (bnew (bnil _) _).drew) [((⟨1, []⟩ : VCall), ((⟨none, 0, 0⟩ : SV) : SV))] y HYE rfl (Sl.drew (Sl.fresh' _ #[_, _] 35 2 1 _ (by simp) rfl)) rfl (by rw [HYL.out]; simp only [maxLen]; omega) (by rw [HYL.out]; omega) (Nat.le_trans HR.out.size (bnew (bnil _) _).drew.size) ?_; intro E6 c6 w6 hc6 hc7 HN6 HG6 HO6; have HZ := HR.out.grow _ w6 (bnew (bnil _) _).drew HG6.out)
              refine hK.out _ _ ?_ (fun hHeld => ?_)
              · (try dsimp only); (first | assumption | exact ⟨c2x, f3⟩ | exact HZ.1 | exact HZ.2.2 _ | (refine sees2f ?_ c2x c3 f3; (repeat (first | exact bnil _ | refine Below.drew ?_ | refine bnew ?_ _))))
              clear hK K
              try simp only [Act.put, List.setIfInBounds_toArray, List.set_cons_zero, List.set_cons_succ]
              refine wpAnyH_take (i := 11) (oi := ⟨some 111, _, _, _, _, _⟩) (v := ?_) rfl (by kernel_rfl) (by kernel_rfl) (by kernel_rfl) (fun _ _ _ h => h) (Or.inl ⟨by rfl, ?_⟩) (by assumption) ?_
              rotate_left
              · intro w hSw; (try dsimp only at hSw); go_simp <;> with_reducible rfl
              try simp only [Act.put, List.setIfInBounds_toArray, List.set_cons_zero, List.set_cons_succ]
              refine wpAnyH_ready (rs := [12]) (by kernel_rfl) (by simp) ?_
              refine AllReadyH.cons (o := ⟨none, _, _, _, _, _⟩) rfl (fun K hK => ?_) AllReadyH.nil
              go_simp
              refine hK.out _ _ ?_ (fun hHeld => ?_)
              · (try dsimp only); (first | assumption | exact ⟨c2x, f3⟩ | exact HZ.1 | exact HZ.2.2 _ | (refine sees2f ?_ c2x c3 f3; (repeat (first | exact bnil _ | refine Below.drew ?_ | refine bnew ?_ _))))
              clear hK K
              try dsimp only [Act.put]
              refine wpAnyH_done (by kernel_rfl) ?_ _
              rotate_left
              all_goals
                have HF := hid (HX.out.app (j := t) (by omega) [⟨1, []⟩] [(⟨none, 0, 0⟩ : SV)] (bnew (bnil _) _).drew rfl HOF.out HYE.out (by rw [HAJ.out]; exact HG6.out) (by rw [HAJ.out]; exact HO6.out) HN6.out)
                clear HZ HG6 HO6 HN6
                go_wp2_with fail
                go_roundw
                case rel => exact ⟨t + 1, _, _, by omega, by omega, by go_num, hid (by have h1 := HF.out; rw [cth_get it1 hlt3] at h1; exact h1)⟩
                case measure => simp [intOf]; omega
            · obtain rfl : t = 4 := by omega
              have i3 : ¬ ((4 : Nat) : Int) < 4 := by omega
              rw [cth_next] at HX
              go_wp2_with fail
              go_roundw
              case rel => exact ⟨k + 1, _, _, by omega, by go_num, HX⟩
              case measure => simp [intOf]; omega
        · obtain rfl : G = k := by omega
          have i2 : ¬ (G : Int) < (G : Int) := by omega
          have HMA := hid (cmach_at HX.out.mn h1 h6 (by omega) (by omega))
          have y0 : wr.cell? ⟨X, 0, none⟩ = some (.slice AW (n + 1) cW) := HX.out.hx.cell 0
          have y1 : wr.cell? ⟨X, 1, none⟩ = some (.slice (some ⟨Cb, 0, none⟩) 2 2) := HX.out.hx.cell 1
          have y2 : wr.cell? ⟨X, 2, none⟩ = some (.slice (some ⟨T, 0, none⟩) 4 4) := HX.out.hx.cell 2
          have z0 := HX.out.hr.frozen 0
          have z1 := HX.out.hr.frozen 1
          have z2 := HX.out.hr.frozen 2
          have z3 : wr.cell? ⟨w.heap.size, 0, none⟩ = some (.slice none 0 0) := HX.out.hr.cell 0
          have z4 : wr.cell? ⟨w.heap.size, 1, none⟩ = some (.slice none 0 0) := HX.out.hr.cell 1
          have z5 : wr.cell? ⟨w.heap.size, 2, none⟩ = some (.slice none 0 0) := HX.out.hr.cell 2
          have HTR := hid (HT.out.below HX.out.below)
          go_upto_region 23 with fail
          refine wp_region_held_drew (S := (fun w' => w'.cell? ⟨X, 0, none⟩ = some (.slice AW (n + 1) cW) ∧ w'.cell? ⟨X, 1, none⟩ = some (.slice (some ⟨Cb, 0, none⟩) 2 2) ∧ w'.cell? ⟨X, 2, none⟩ = some (.slice (some ⟨T, 0, none⟩) 4 4) ∧ w'.frozen? ⟨w.heap.size, 0, none⟩ = false ∧ w'.frozen? ⟨w.heap.size, 1, none⟩ = false ∧ w'.frozen? ⟨w.heap.size, 2, none⟩ = false)) (by kernel_rfl) ?_ (fun hHeld => ?_)
          · (try dsimp only); (first | assumption | exact ⟨y0, y1, y2, z0, z1, z2⟩ | exact ⟨y0', y1', y2', z0', z1', z2'⟩ | exact keep16s hXR y0' y1' y2' z0' z1' z2' _ _ _)
          refine wpAnyH_take (i := 0) (oi := ⟨some 112, _, _, _, _, _⟩) (v := ?_) rfl (by kernel_rfl) (by kernel_rfl) (by kernel_rfl) (fun _ _ _ h => h) (Or.inl ⟨by rfl, ?_⟩) (by assumption) ?_
          rotate_left
          · intro w hSw; (try dsimp only at hSw); go_simp <;> with_reducible rfl
          try simp only [Act.put, List.setIfInBounds_toArray, List.set_cons_zero, List.set_cons_succ]
          refine wpAnyH_take (i := 1) (oi := ⟨some 113, _, _, _, _, _⟩) (v := ?_) rfl (by kernel_rfl) (by kernel_rfl) (by kernel_rfl) (fun _ _ _ h => h) (Or.inl ⟨by rfl, ?_⟩) (by assumption) ?_
          rotate_left
          · intro w hSw; (try dsimp only at hSw); go_simp <;> with_reducible rfl
          try simp only [Act.put, List.setIfInBounds_toArray, List.set_cons_zero, List.set_cons_succ]
          refine wpAnyH_ready (rs := [2]) (by kernel_rfl) (by simp) ?_
          refine AllReadyH.cons (o := ⟨some 114, _, _, _, _, _⟩) rfl (fun K hK => ?_) AllReadyH.nil
          go_simp
          refine (run_may AW (some ⟨Cb, 0, none⟩) (some ⟨T, 0, none⟩) (n + 1) cW 2 2 4 4 _ _ (by omega) (by decide) (by decide) (HTR.out.below (bnil _).drew) (HMA.out.below (bnil _).drew)).mono ?_; rintro e w4 ⟨rfl, b4⟩; have b4 := bgo (bnil wr).drew b4; obtain ⟨y0', y1', y2', z0', z1', z2', z3', z4', z5'⟩ := keep16 b4 y0 y1 y2 z0 z1 z2 z3 z4 z5; clear y0 y1 y2 z0 z1 z2 z3 z4 z5
          go_wp2_with fail
          refine hK.out _ _ ?_ (fun hHeld => ?_)
          · (try dsimp only); (first | assumption | exact ⟨y0, y1, y2, z0, z1, z2⟩ | exact ⟨y0', y1', y2', z0', z1', z2'⟩ | exact keep16s hXR y0' y1' y2' z0' z1' z2' _ _ _)
          clear hK K
          try simp only [Act.put, List.setIfInBounds_toArray, List.set_cons_zero, List.set_cons_succ]
          refine wpAnyH_ready (rs := [3]) (by kernel_rfl) (by simp) ?_
          refine AllReadyH.cons (o := ⟨none, _, _, _, _, _⟩) rfl (fun K hK => ?_) AllReadyH.nil
          go_simp
          refine hK.out _ _ ?_ (fun hHeld => ?_)
          · (try dsimp only); (first | assumption | exact ⟨y0, y1, y2, z0, z1, z2⟩ | exact ⟨y0', y1', y2', z0', z1', z2'⟩ | exact keep16s hXR y0' y1' y2' z0' z1' z2' _ _ _)
          clear hK K
          try dsimp only [Act.put]
          refine wpAnyH_take (i := 4) (oi := ⟨some 7, _, _, _, _, _⟩) (v := ?_) rfl (by kernel_rfl) (by kernel_rfl) (by kernel_rfl) (fun _ _ _ h => h) (Or.inl ⟨by rfl, ?_⟩) (by assumption) ?_
          rotate_left
          · intro w hSw; (try dsimp only at hSw); go_simp <;> with_reducible rfl
          try simp only [Act.put, List.setIfInBounds_toArray, List.set_cons_zero, List.set_cons_succ]
          refine wpAnyH_done (by kernel_rfl) ?_ _
          rotate_left
          go_wp2
          have HXZ := hid (HX.out.step b4)
          obtain ⟨q0, q1, q2⟩ := set3N HXZ.out.hr (.slice AW (n + 1) cW) (.slice (some ⟨Cb, 0, none⟩) 2 2) (.slice (some ⟨T, 0, none⟩) 4 4)
          refine bodyPost_ret (v := .tuple #[.agg #[(.slice AW (n + 1) cW), .slice (some ⟨Cb, 0, none⟩) 2 2, .slice (some ⟨T, 0, none⟩) 4 4], .bool true]) (by simp [results, Tryd.results25, go_sem, q0, q1, q2]) rfl ?_
          exact ⟨AW, cW, Cb, T, _, tv, av, rfl, by have h := own_res HXZ.out.own HXZ.out.hr (by decide) (.slice AW (n + 1) cW) (.slice (some ⟨Cb, 0, none⟩) 2 2) (.slice (some ⟨T, 0, none⟩) 4 4); rw [HWL.out] at h; exact h, HXZ.out.mn.res HXZ.out.hr _ _ _, ((HXZ.out.below.setCell (p := ⟨w.heap.size, 0, none⟩) (Nat.le_refl _) _).setCell (p := ⟨w.heap.size, 1, none⟩) (Nat.le_refl _) _).setCell (p := ⟨w.heap.size, 2, none⟩) (Nat.le_refl _) _⟩
end Go.Proofs.YtabmkjokeeakdaaDoor
