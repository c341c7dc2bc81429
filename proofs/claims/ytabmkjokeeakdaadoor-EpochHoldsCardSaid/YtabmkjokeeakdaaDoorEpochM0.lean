/-
  barographkeep.epochMachine: its walk. Written by gen_epochm.py.
-/
import Derived.Test.YtabmkjokeeakdaaDoorMBun
import Derived.Test.YtabmkjokeeakdaaDoorKeep16
import Derived.Test.YtabmkjokeeakdaaDoorRunMay
import Derived.Test.YtabmkjokeeakdaaDoorCodesE
namespace Go.Proofs.YtabmkjokeeakdaaDoor
open Go.RowKit
set_option linter.unusedVariables false

/-- a thread that pins and unpins, i times -/
def erounds : Nat → Nat → List VCall
  | 0, _ => []
  | i + 1, t => erounds i t ++ [⟨0, [(t : Int)]⟩, ⟨1, [(t : Int)]⟩]
def eret (N ofs i : Nat) : VCall := ⟨2, [(((i + ofs) % N : Nat) : Int)]⟩
def eth (N ofs i j q g t : Nat) : List VCall := if t < 2 then erounds (if t < j then i + 1 else i) t else if t = 2 then (List.range q).map (eret N ofs) else if t = 3 then List.replicate g ⟨3, []⟩ else []
theorem eth_zero (N ofs : Nat) : eth N ofs 0 0 0 0 = fun _ => [] := by
  funext t
  unfold eth
  split
  · rw [if_neg (by omega)]; rfl
  · split
    · rfl
    · split <;> rfl
theorem eth_r {N ofs i j : Nat} (h : j < 2) : upd (eth N ofs i j 0 0) j (eth N ofs i j 0 0 j ++ [⟨0, [(j : Int)]⟩, ⟨1, [(j : Int)]⟩]) = eth N ofs i (j + 1) 0 0 := by
  funext t
  unfold upd eth
  by_cases e : t = j
  · subst e; simp [h, erounds]
  · by_cases h2 : t < 2
    · by_cases h3 : t < j
      · simp [e, h2, h3, Nat.lt_succ_of_lt h3]
      · simp [e, h2, h3, show ¬ t < j + 1 by omega]
    · simp [e, h2]
theorem eth_n (N ofs i : Nat) : eth N ofs i 2 0 0 = eth N ofs (i + 1) 0 0 0 := by
  funext t
  unfold eth
  by_cases h2 : t < 2
  · simp [h2]
  · simp [h2]
theorem eth_q (N ofs q : Nat) : upd (eth N ofs 10 0 q 0) 2 (eth N ofs 10 0 q 0 2 ++ [⟨2, [(((q + ofs) % N : Nat) : Int)]⟩]) = eth N ofs 10 0 (q + 1) 0 := by
  funext t
  unfold upd eth
  by_cases e : t = 2
  · subst e; simp [List.range_succ, eret]
  · simp [e]
theorem eth_g (N ofs q g : Nat) : upd (eth N ofs 10 0 q g) 3 (eth N ofs 10 0 q g 3 ++ [⟨3, []⟩]) = eth N ofs 10 0 q (g + 1) := by
  funext t
  unfold upd eth
  by_cases e : t = 3
  · subst e
    simp only [if_true]
    rw [if_neg (by decide), if_neg (by decide), if_neg (by decide), if_neg (by decide), List.replicate_succ']
  · simp [e]
theorem erounds_len : ∀ i t, (erounds i t).length = 2 * i
  | 0, _ => rfl
  | i + 1, t => by rw [erounds, List.length_append, erounds_len i t]; simp; omega
theorem eth_len (N ofs i j q g t : Nat) : (eth N ofs i j q g t).length ≤ max (2 * i + (if t < j then 2 else 0)) (max q g) := by
  unfold eth
  split
  · rw [erounds_len]; split <;> omega
  · split
    · simp; omega
    · split
      · rw [List.length_replicate]; omega
      · simp
theorem erounds_mem : ∀ (i t : Nat) (c : VCall), c ∈ erounds i t → c.code < 4 ∧ c.args.length ≤ 8
  | 0, _, c, h => by cases h
  | i + 1, t, c, h => by
    rcases List.mem_append.1 (show c ∈ erounds i t ++ [⟨0, [(t : Int)]⟩, ⟨1, [(t : Int)]⟩] from h) with h1 | h1
    · exact erounds_mem i t c h1
    · simp only [List.mem_cons, List.not_mem_nil, or_false] at h1
      rcases h1 with rfl | rfl <;> exact ⟨by simp, by simp⟩
theorem eth_mem {N ofs i j q g t : Nat} : ∀ c ∈ eth N ofs i j q g t, c.code < 4 ∧ c.args.length ≤ 8 := by
  intro c hc
  unfold eth at hc
  split at hc
  · exact erounds_mem _ _ c hc
  · split at hc
    · obtain ⟨x, _, rfl⟩ := List.mem_map.1 hc
      exact ⟨by simp [eret], by simp [eret]⟩
    · split at hc
      · rw [List.eq_of_mem_replicate hc]; exact ⟨by decide, by decide⟩
      · cases hc
def emach (N ofs : Nat) : Mach := ⟨List.replicate (N + 5) 0, [epinCode, eunpinCode, eretireCode, efreeCode N], (List.range 4).map (eth N ofs 10 0 N 20)⟩
theorem ecode_sh (N i : Nat) (hi : i < 4) : ([epinCode, eunpinCode, eretireCode, efreeCode N].getD i []).length ≤ 200 ∧ ∀ o ∈ [epinCode, eunpinCode, eretireCode, efreeCode N].getD i [], OpSh ([epinCode, eunpinCode, eretireCode, efreeCode N].getD i []).length o := by
  rcases (show i = 0 ∨ i = 1 ∨ i = 2 ∨ i = 3 by omega) with rfl | rfl | rfl | rfl
  · exact ⟨Nat.le_of_ble_eq_true rfl, epin_sh⟩
  · exact ⟨Nat.le_of_ble_eq_true rfl, eunpin_sh⟩
  · exact ⟨Nat.le_of_ble_eq_true rfl, eretire_sh⟩
  · exact ⟨Nat.le_of_ble_eq_true rfl, efree_sh N⟩
theorem emach_at {B : Nat} {w : World} {Cb T N ofs : Nat} {cv tv : Nat → Value} {av : Nat → List SV} (h : MN B w 4 4 Cb T cv (fun i => [epinCode, eunpinCode, eretireCode, efreeCode N].getD i []) tv (eth N ofs 10 0 N 20) av) (h8 : N ≤ 8) : MachAt w (some ⟨Cb, 0, none⟩) 4 (some ⟨T, 0, none⟩) 4 (emach N ofs) :=
  h.at_ rfl rfl (fun i hi => ecode_sh N i hi) (fun j hj => ⟨by have := eth_len N ofs 10 0 N 20 j; simp at this; omega, eth_mem⟩)
def EpochPost (w : World) (N ofs : Nat) (e : Ending) (w' : World) : Prop :=
  ∃ (AW : Option Addr) (cW Cb T : Nat) (cv tv : Nat → Value) (av : Nat → List SV), e = .returned (.tuple #[.agg #[(.slice AW (N + 5) cW), .slice (some ⟨Cb, 0, none⟩) 4 4, .slice (some ⟨T, 0, none⟩) 4 4], .bool true]) ∧
    w'.ownsRow w.heap.size 3 1 (.slice AW (N + 5) cW) (N + 5) ((List.replicate (N + 5) (0 : Int)).flatMap gI) ∧ MN w.heap.size w' 4 4 Cb T cv (fun i => [epinCode, eunpinCode, eretireCode, efreeCode N].getD i []) tv (eth N ofs 10 0 N 20) av ∧ Below w.heap.size w w'
/-- where the order begins -/
def eofs (N : Nat) (cs : List Int) : Nat := match cs with | [] => 0 | x :: _ => pk x N
set_option maxHeartbeats 8000000 in
set_option maxRecDepth 100000 in
theorem epoch_machine0 (N : Nat) (D : Option Addr) (r s : Nat) (cs : List Int) (w : World) (h1 : 1 ≤ N) (h8 : N ≤ 8) (hr : r ≤ 9223372036854775807) (hD : Sl w 1 D r (ints cs)) (hcs : ∀ x ∈ cs, -9223372036854775808 ≤ x ∧ x ≤ 9223372036854775807) (hT : STab w) (hr0z : r = 0) :
    Calls Tryd.prog 17 #[.int .i64 (N : Int), .slice D r s] w fun e w' => EpochPost w N (eofs N cs) e w' := by
  have HR0 := hid hr0z; clear hr0z
  have HT := hid hT; have HDD := hid hD; have HCS := hid hcs
  have HWL := hid (show (List.replicate (N + 5) (0 : Int)).length = N + 5 by rw [List.length_replicate])
  have HRL := hid (show cs.length = r from hD.leni)
  obtain ⟨ofs, hofs⟩ : ∃ ofs, eofs N cs = ofs := ⟨_, rfl⟩
  have HOFS := hid hofs
  rw [hofs]
  clear hT hD hcs hofs
  go_enter Tryd.func17, Tryd.ntmps17
  go_wp2_with fail
  have HG := hid (Blk.new w 29 #[.slice none 0 0, .slice none 0 0, .slice none 0 0])
  have B0 := hid (bnew (bnil w) (.cells #[.slice none 0 0, .slice none 0 0, .slice none 0 0] 29))
  generalize World.alloc w (.cells #[.slice none 0 0, .slice none 0 0, .slice none 0 0] 29) = w0 at *
  refine (epoch_words N w0 h1 h8).mono ?_
  rintro e w1 ⟨v1, rfl, o1⟩
  obtain ⟨AW, cW, rfl, hcW, hcW2⟩ := o1.form
  rw [HWL.out] at hcW ⊢
  have OW1 := hid (show w1.ownsRow w0.heap.size 3 1 (.slice AW (N + 5) cW) (N + 5) ((List.replicate (N + 5) (0 : Int)).flatMap gI) by have h := o1.own; rw [HWL.out] at h; exact h)
  have BW1 := hid o1.below
  clear o1
  go_wp2_with fail
  refine (epoch_pin N w1 h1 h8).mono ?_
  rintro e w2 ⟨v1, rfl, o1⟩
  obtain ⟨A1, c1, rfl, hc1, hcc1⟩ := o1.form
  have O1 := hid o1
  rw [show (epinCode).length = 4 from rfl] at *
  clear o1
  go_wp2_with fail
  refine (epoch_unpin N w2 h1 h8).mono ?_
  rintro e w3 ⟨v2, rfl, o2⟩
  obtain ⟨A2, c2, rfl, hc2, hcc2⟩ := o2.form
  have O2 := hid o2
  rw [show (eunpinCode).length = 1 from rfl] at *
  clear o2
  go_wp2_with fail
  refine (epoch_retire N w3 h1 h8).mono ?_
  rintro e w4 ⟨v3, rfl, o3⟩
  obtain ⟨A3, c3, rfl, hc3, hcc3⟩ := o3.form
  have O3 := hid o3
  rw [show (eretireCode).length = 7 from rfl] at *
  clear o3
  go_wp2_with fail
  refine (epoch_free N w4 h1 h8).mono ?_
  rintro e w5 ⟨v4, rfl, o4⟩
  obtain ⟨A4, c4, rfl, hc4, hcc4⟩ := o4.form
  have O4 := hid o4
  rw [show (efreeCode N).length = 25 from rfl] at *
  clear o4
  have Bq1 := hid (bgo B0.out BW1.out)
  have Bq2 := hid (bgo Bq1.out O1.out.below)
  have Bq3 := hid (bgo Bq2.out O2.out.below)
  have Bq4 := hid (bgo Bq3.out O3.out.below)
  have B3 := hid (bgo Bq4.out O4.out.below)
  have B13 := hid (bgo (bgo (bgo (bgo BW1.out O1.out.below) O2.out.below) O3.out.below) O4.out.below)
  have HG3 := hid (HG.out.below' B13.out)
  have HW3 := hid (own_below (own_lower OW1.out B0.out.size) (bgo (bgo (bgo O1.out.below O2.out.below) O3.out.below) O4.out.below))
  have HC1 := hid (own_below (own_lower O1.out.own Bq1.out.size) (bgo (bgo O2.out.below O3.out.below) O4.out.below))
  have HC2 := hid (own_below (own_lower O2.out.own Bq2.out.size) (bgo O3.out.below O4.out.below))
  have HC3 := hid (own_below (own_lower O3.out.own Bq3.out.size) O4.out.below)
  have HC4 := hid (own_lower O4.out.own Bq4.out.size)
  clear HG B0 OW1 BW1 O1 O2 O3 O4 B13 Bq1 Bq2 Bq3 Bq4
  obtain ⟨Cb, hCb⟩ : ∃ Cb, w5.heap.size = Cb := ⟨_, rfl⟩
  have hmk := mkT4 (w5.alloc (.cells #[.slice A1 4 c1, .slice A2 1 c2, .slice A3 7 c3, .slice A4 25 c4] 60))
  have BE := bnew (bnew (bnew (bnil w5) (.cells #[.slice A1 4 c1, .slice A2 1 c2, .slice A3 7 c3, .slice A4 25 c4] 60)) (.cells #[.slice none 0 0, .slice none 0 0, .slice none 0 0, .slice none 0 0] 33)) (.cells #[.slice AW (N + 5) cW, .slice (some ⟨Cb, 0, none⟩) 4 4, .slice (some ⟨Cb + 1, 0, none⟩) 4 4] 29)
  have HCB := hid ((blkN w5 60 #[.slice A1 4 c1, .slice A2 1 c2, .slice A3 7 c3, .slice A4 25 c4] Cb hCb).below' (bnew (bnew (bnil _) (.cells #[.slice none 0 0, .slice none 0 0, .slice none 0 0, .slice none 0 0] 33)) (.cells #[.slice AW (N + 5) cW, .slice (some ⟨Cb, 0, none⟩) 4 4, .slice (some ⟨Cb + 1, 0, none⟩) 4 4] 29)))
  have HTB := hid ((blkN (w5.alloc (.cells #[.slice A1 4 c1, .slice A2 1 c2, .slice A3 7 c3, .slice A4 25 c4] 60)) 33 #[.slice none 0 0, .slice none 0 0, .slice none 0 0, .slice none 0 0] (Cb + 1) (by rw [World.size_alloc, hCb])).below' (bnew (bnil _) (.cells #[.slice AW (N + 5) cW, .slice (some ⟨Cb, 0, none⟩) 4 4, .slice (some ⟨Cb + 1, 0, none⟩) 4 4] 29)))
  have HXB := hid (blkN ((w5.alloc (.cells #[.slice A1 4 c1, .slice A2 1 c2, .slice A3 7 c3, .slice A4 25 c4] 60)).alloc (.cells #[.slice none 0 0, .slice none 0 0, .slice none 0 0, .slice none 0 0] 33)) 29 #[.slice AW (N + 5) cW, .slice (some ⟨Cb, 0, none⟩) 4 4, .slice (some ⟨Cb + 1, 0, none⟩) 4 4] (Cb + 2) (by rw [World.size_alloc, World.size_alloc, hCb]))
  have B3E := hid BE
  clear BE
  go_upto_region 7 with fail
  have hBC : w.heap.size ≤ Cb := by rw [← hCb]; exact B3.out.size
  have BW := hid (bgo B3.out B3E.out)
  have HGE := hid (HG3.out.below' B3E.out)
  have HWE := hid (own_below HW3.out B3E.out)
  have HC1E := hid (own_below HC1.out B3E.out)
  have HC2E := hid (own_below HC2.out B3E.out)
  have HC3E := hid (own_below HC3.out B3E.out)
  have HC4E := hid (own_below HC4.out B3E.out)
  clear hmk B3 HG3 HW3 HC1 HC2 HC3 HC4 B3E hCb
  generalize World.alloc (World.alloc (World.alloc w5 _) _) _ = wE at *
  obtain ⟨T, hT⟩ : ∃ T, Cb + 1 = T := ⟨_, rfl⟩
  rw [hT] at HTB HXB ⊢
  obtain ⟨X, hX⟩ : ∃ X, T + 1 = X := ⟨_, rfl⟩
  rw [hX]
  rw [show Cb + 2 = X by omega] at HXB
  have hTw : w.heap.size ≤ T := by omega
  have hXR : X ≠ w.heap.size := by omega
  have BU := hid (show MBun w wE w.heap.size nil3 w.heap.size X Cb T 4 4 (.slice AW (N + 5) cW) (List.replicate (N + 5) (0 : Int)) (fun i => [.slice A1 4 c1, .slice A2 1 c2, .slice A3 7 c3, .slice A4 25 c4].getD i undef) (fun i => [epinCode, eunpinCode, eretireCode, efreeCode N].getD i []) _ (eth N ofs 0 0 0 0) (fun _ => []) from
    ⟨BW.out, HGE.out, HGE.out, HXB.out, by rw [HWL.out]; exact HWE.out, by
      rw [eth_zero]
      exact MN.start (v := fun _ => undef) hBC hTw HCB.out HTB.out (fun i hi => (by
        rcases (show i = 0 ∨ i = 1 ∨ i = 2 ∨ i = 3 by omega) with rfl | rfl | rfl | rfl
        · exact HC1E.out
        · exact HC2E.out
        · exact HC3E.out
        · exact HC4E.out))⟩)
  clear BW HGE HXB HWE HCB HTB HC1E HC2E HC3E HC4E hT hX hBC
  go_wp2_with fail
  go_loopw [17] (fun v wx => ∃ (i : Nat) (tv : Nat → Value) (av : Nat → List SV), i ≤ 10 ∧ v = .int .i64 i ∧ Hid (MBun w wx w.heap.size nil3 w.heap.size X Cb T 4 4 (.slice AW (N + 5) cW) (List.replicate (N + 5) (0 : Int)) (fun i => [.slice A1 4 c1, .slice A2 1 c2, .slice A3 7 c3, .slice A4 25 c4].getD i undef) (fun i => [epinCode, eunpinCode, eretireCode, efreeCode N].getD i []) tv (eth N ofs i 0 0 0) av)) (fun v _ => 10 - (intOf v).toNat)
  case atStart => exact ⟨0, _, _, Nat.zero_le _, rfl, BU⟩
  case round =>
    clear BU
    obtain ⟨i, tv, av, hi10, rfl, HX⟩ := hrel
    by_cases hlt : i < 10
    · have i1 : (i : Int) < 10 := by omega
      go_wp2_with fail
      go_loopw [18] (fun v wx => ∃ (t : Nat) (tv : Nat → Value) (av : Nat → List SV), t ≤ 2 ∧ v = .int .i64 t ∧ Hid (MBun w wx w.heap.size nil3 w.heap.size X Cb T 4 4 (.slice AW (N + 5) cW) (List.replicate (N + 5) (0 : Int)) (fun i => [.slice A1 4 c1, .slice A2 1 c2, .slice A3 7 c3, .slice A4 25 c4].getD i undef) (fun i => [epinCode, eunpinCode, eretireCode, efreeCode N].getD i []) tv (eth N ofs i t 0 0) av)) (fun v _ => 2 - (intOf v).toNat)
      case atStart => exact ⟨0, tv, av, Nat.zero_le _, rfl, HX⟩
      case round =>
        clear HX
        clear tv av
        obtain ⟨t, tv, av, ht2, rfl, HX⟩ := hrel
        by_cases hlt2 : t < 2
        · have i2 : (t : Int) < 2 := by omega
          have i3 : (t : Int) < 4 := by omega
          have i4 : (0 : Int) ≤ (t : Int) := by omega
          have HLN := hid (show (eth N ofs i t 0 0 t).length ≤ 20 by have := eth_len N ofs i t 0 0 t; rw [if_neg (Nat.lt_irrefl _)] at this; omega)
          have HOF0 := hid (show ∀ (LIT : Obj) (k' : Nat) (c : VCall) (a : SV), ([⟨0, [(t : Int)]⟩, ⟨1, [(t : Int)]⟩] : List VCall)[k']? = some c → ([⟨some ⟨wr.heap.size, 0, none⟩, 1, 1⟩, ⟨some ⟨wr.heap.size + 1, 0, none⟩, 1, 1⟩] : List SV)[k']? = some a → ((((wr.alloc (.cells #[.int .i64 (t : Int)] 3)).alloc (.cells #[.int .i64 (t : Int)] 3)).alloc LIT).drew).ownsRow w.heap.size 3 1 a.v c.args.length (c.args.flatMap gI) from by
            intro LIT k' c a hc ha
            have hge : w.heap.size ≤ wr.heap.size := HX.out.below.size
            match k', hc, ha with
            | 0, hc, ha =>
              injection hc with hc; injection ha with ha; subst hc ha
              have hB : Blk ((((wr.alloc (.cells #[.int .i64 (t : Int)] 3)).alloc (.cells #[.int .i64 (t : Int)] 3)).alloc LIT).drew) (wr.heap.size) 3 #[.int .i64 (t : Int)] := ((Blk.new wr _ _).alloc _).alloc _
              exact ⟨rfl, .inr ⟨wr.heap.size, 1, #[.int .i64 (t : Int)], rfl, by omega, hB, Nat.le_refl _, by unfold maxLen; omega, rfl, rfl⟩⟩
            | 1, hc, ha =>
              injection hc with hc; injection ha with ha; subst hc ha
              have hB : Blk ((((wr.alloc (.cells #[.int .i64 (t : Int)] 3)).alloc (.cells #[.int .i64 (t : Int)] 3)).alloc LIT).drew) (wr.heap.size + 1) 3 #[.int .i64 (t : Int)] := (blkN (wr.alloc _) _ _ (wr.heap.size + 1) (by simp)).alloc _
              exact ⟨rfl, .inr ⟨wr.heap.size + 1, 1, #[.int .i64 (t : Int)], rfl, by omega, hB, Nat.le_refl _, by unfold maxLen; omega, rfl, rfl⟩⟩
            | k + 2, hc, ha => cases hc)
          have HOF1 := hid (show ∀ (LIT : Obj) (k' : Nat) (c : VCall) (a : SV), ([⟨0, [(t : Int)]⟩, ⟨1, [(t : Int)]⟩] : List VCall)[k']? = some c → ([⟨some ⟨wr.heap.size + 1, 0, none⟩, 1, 1⟩, ⟨some ⟨wr.heap.size, 0, none⟩, 1, 1⟩] : List SV)[k']? = some a → ((((wr.alloc (.cells #[.int .i64 (t : Int)] 3)).alloc (.cells #[.int .i64 (t : Int)] 3)).alloc LIT).drew).ownsRow w.heap.size 3 1 a.v c.args.length (c.args.flatMap gI) from by
            intro LIT k' c a hc ha
            have hge : w.heap.size ≤ wr.heap.size := HX.out.below.size
            match k', hc, ha with
            | 0, hc, ha =>
              injection hc with hc; injection ha with ha; subst hc ha
              have hB : Blk ((((wr.alloc (.cells #[.int .i64 (t : Int)] 3)).alloc (.cells #[.int .i64 (t : Int)] 3)).alloc LIT).drew) (wr.heap.size + 1) 3 #[.int .i64 (t : Int)] := (blkN (wr.alloc _) _ _ (wr.heap.size + 1) (by simp)).alloc _
              exact ⟨rfl, .inr ⟨wr.heap.size + 1, 1, #[.int .i64 (t : Int)], rfl, by omega, hB, Nat.le_refl _, by unfold maxLen; omega, rfl, rfl⟩⟩
            | 1, hc, ha =>
              injection hc with hc; injection ha with ha; subst hc ha
              have hB : Blk ((((wr.alloc (.cells #[.int .i64 (t : Int)] 3)).alloc (.cells #[.int .i64 (t : Int)] 3)).alloc LIT).drew) (wr.heap.size) 3 #[.int .i64 (t : Int)] := ((Blk.new wr _ _).alloc _).alloc _
              exact ⟨rfl, .inr ⟨wr.heap.size, 1, #[.int .i64 (t : Int)], rfl, by omega, hB, Nat.le_refl _, by unfold maxLen; omega, rfl, rfl⟩⟩
            | k + 2, hc, ha => cases hc)
          obtain ⟨Aj, cj, hAj, HR0⟩ := HX.out.row (j := t) (by omega)
          obtain ⟨L, hL⟩ : ∃ L, ((eth N ofs i t 0 0) t).length = L := ⟨_, rfl⟩
          rw [hL] at hAj HR0
          have hL18 : L ≤ 20 := by rw [← hL]; exact HLN.out
          obtain ⟨y0, hy0⟩ : ∃ y, ((eth N ofs i t 0 0) t).zip (av t) ++ [((⟨0, [(t : Int)]⟩ : VCall), (⟨some ⟨wr.heap.size, 0, none⟩, 1, 1⟩ : SV)), ((⟨1, [(t : Int)]⟩ : VCall), (⟨some ⟨wr.heap.size + 1, 0, none⟩, 1, 1⟩ : SV))] = y := ⟨_, rfl⟩
          have HYE0 := hid hy0
          have HYL0 := hid (show y0.length = L + 2 by rw [← hy0, List.length_append, HR0.len]; rfl)
          clear hy0
          obtain ⟨y1, hy1⟩ : ∃ y, ((eth N ofs i t 0 0) t).zip (av t) ++ [((⟨0, [(t : Int)]⟩ : VCall), (⟨some ⟨wr.heap.size + 1, 0, none⟩, 1, 1⟩ : SV)), ((⟨1, [(t : Int)]⟩ : VCall), (⟨some ⟨wr.heap.size, 0, none⟩, 1, 1⟩ : SV))] = y := ⟨_, rfl⟩
          have HYE1 := hid hy1
          have HYL1 := hid (show y1.length = L + 2 by rw [← hy1, List.length_append, HR0.len]; rfl)
          clear hy1
          have HR := hid HR0
          have HAJ := hid hAj
          have c2x := HR.out.c2; have c3 := HR.out.c3; have f3 := HR.out.f3; have hcj := HR.out.hcj; have hcm := HR.out.hcm
          unfold maxLen at hcm
          clear HR0 hAj hL
          have ltT := World.block_lt_of_cell? wr _ c3
          have ltX := World.block_lt_of_cell? wr _ c2x
          have ltT1 : T < wr.heap.size + 1 := Nat.lt_succ_of_lt ltT
          have ltT2 : T < wr.heap.size + 1 + 1 := Nat.lt_succ_of_lt ltT1
          have hq3 : ∀ o1 o2 o3 : Obj, (((wr.alloc o1).alloc o2).alloc o3).cell? ⟨T, t, none⟩ = some (.slice Aj L cj) := fun o1 o2 o3 => cell_below (bnew (bnew (bnew (bnil wr) o1) o2) o3) c3
          go_upto_region 13 with fail
          refine wp_region_held_drew (S := (fun w' => w'.cell? ⟨X, 2, none⟩ = some (.slice (some ⟨T, 0, none⟩) 4 4) ∧ w'.frozen? ⟨T, t, none⟩ = false)) (by kernel_rfl) ?_ (fun hHeld => ?_)
          · (try dsimp only); (first | assumption | exact ⟨c2x, f3⟩ | exact HZ.1 | exact HZ.2.2 _ | (refine sees2f ?_ c2x c3 f3; (repeat (first | exact bnil _ | refine Below.drew ?_ | refine bnew ?_ _))))
          refine wpAnyH_take (i := 0) (oi := ⟨some 63, _, _, _, _, _⟩) (v := ?_) rfl (by kernel_rfl) (by kernel_rfl) (by kernel_rfl) (fun _ _ _ h => h) (Or.inl ⟨by rfl, ?_⟩) (by assumption) ?_
          rotate_left
          · intro w hSw; (try dsimp only at hSw); go_simp <;> with_reducible rfl
          try simp only [Act.put, List.setIfInBounds_toArray, List.set_cons_zero, List.set_cons_succ]
          refine wpAnyH_take (i := 1) (oi := ⟨some 64, _, _, _, _, _⟩) (v := ?_) rfl (by kernel_rfl) (by kernel_rfl) (by kernel_rfl) (fun _ _ _ h => h) (Or.inl ⟨by rfl, ?_⟩) (by assumption) ?_
          rotate_left
          · intro w hSw; (try dsimp only at hSw); go_simp <;> with_reducible rfl
          try simp only [Act.put, List.setIfInBounds_toArray, List.set_cons_zero, List.set_cons_succ]
          refine wpAnyH_take (i := 2) (oi := ⟨some 65, _, _, _, _, _⟩) (v := ?_) rfl (by kernel_rfl) (by kernel_rfl) (by kernel_rfl) (fun _ _ _ h => h) (Or.inl ⟨by rfl, ?_⟩) (by assumption) ?_
          rotate_left
          · intro w hSw; (try dsimp only at hSw); go_simp <;> with_reducible rfl
          try simp only [Act.put, List.setIfInBounds_toArray, List.set_cons_zero, List.set_cons_succ]
          refine wpAnyH_take (i := 3) (oi := ⟨some 66, _, _, _, _, _⟩) (v := ?_) rfl (by kernel_rfl) (by kernel_rfl) (by kernel_rfl) (fun _ _ _ h => h) (Or.inl ⟨by rfl, ?_⟩) (by assumption) ?_
          rotate_left
          · intro w hSw; (try dsimp only at hSw); go_simp <;> with_reducible rfl
          try simp only [Act.put, List.setIfInBounds_toArray, List.set_cons_zero, List.set_cons_succ]
          refine wpAnyH_take (i := 4) (oi := ⟨some 67, _, _, _, _, _⟩) (v := ?_) rfl (by kernel_rfl) (by kernel_rfl) (by kernel_rfl) (fun _ _ _ h => h) (Or.inl ⟨by rfl, ?_⟩) (by assumption) ?_
          rotate_left
          · intro w hSw; (try dsimp only at hSw); go_simp <;> with_reducible rfl
          try simp only [Act.put, List.setIfInBounds_toArray, List.set_cons_zero, List.set_cons_succ]
          refine wpAnyH_take (i := 5) (oi := ⟨some 68, _, _, _, _, _⟩) (v := ?_) rfl (by kernel_rfl) (by kernel_rfl) (by kernel_rfl) (fun _ _ _ h => h) (Or.inl ⟨by rfl, ?_⟩) (by assumption) ?_
          rotate_left
          · intro w hSw; (try dsimp only at hSw); go_simp <;> with_reducible rfl
          try simp only [Act.put, List.setIfInBounds_toArray, List.set_cons_zero, List.set_cons_succ]
          refine wpAnyH_take (i := 6) (oi := ⟨some 69, _, _, _, _, _⟩) (v := ?_) rfl (by kernel_rfl) (by kernel_rfl) (by kernel_rfl) (fun _ _ _ h => h) (Or.inl ⟨by rfl, ?_⟩) (by assumption) ?_
          rotate_left
          · intro w hSw; (try dsimp only at hSw); go_simp <;> with_reducible rfl
          try simp only [Act.put, List.setIfInBounds_toArray, List.set_cons_zero, List.set_cons_succ]
          refine wpAnyH_take (i := 8) (oi := ⟨some 71, _, _, _, _, _⟩) (v := ?_) rfl (by kernel_rfl) (by kernel_rfl) (by kernel_rfl) (fun _ _ _ h => h) (Or.inl ⟨by rfl, ?_⟩) (by assumption) ?_
          rotate_left
          · intro w hSw; (try dsimp only at hSw); go_simp <;> with_reducible rfl
          try simp only [Act.put, List.setIfInBounds_toArray, List.set_cons_zero, List.set_cons_succ]
          refine wpAnyH_take (i := 11) (oi := ⟨some 74, _, _, _, _, _⟩) (v := ?_) rfl (by kernel_rfl) (by kernel_rfl) (by kernel_rfl) (fun _ _ _ h => h) (Or.inl ⟨by rfl, ?_⟩) (by assumption) ?_
          rotate_left
          · intro w hSw; (try dsimp only at hSw); go_simp <;> with_reducible rfl
          try simp only [Act.put, List.setIfInBounds_toArray, List.set_cons_zero, List.set_cons_succ]
          refine wpAnyH_ready (rs := [7, 9, 12]) (by kernel_rfl) (by simp) ?_
          refine AllReadyH.cons (o := ⟨some 70, _, _, _, _, _⟩) rfl (fun K hK => ?_) ?_
          go_simp
          refine hK.out _ _ ?_ (fun hHeld => ?_)
          · (try dsimp only); (first | assumption | exact ⟨c2x, f3⟩ | exact HZ.1 | exact HZ.2.2 _ | (refine sees2f ?_ c2x c3 f3; (repeat (first | exact bnil _ | refine Below.drew ?_ | refine bnew ?_ _))))
          clear hK K
          try simp only [Act.put, List.setIfInBounds_toArray, List.set_cons_zero, List.set_cons_succ]
          refine wpAnyH_ready (rs := [9, 12]) (by kernel_rfl) (by simp) ?_
          refine AllReadyH.cons (o := ⟨some 72, _, _, _, _, _⟩) rfl (fun K hK => ?_) ?_
          go_simp
          refine hK.out _ _ ?_ (fun hHeld => ?_)
          · (try dsimp only); (first | assumption | exact ⟨c2x, f3⟩ | exact HZ.1 | exact HZ.2.2 _ | (refine sees2f ?_ c2x c3 f3; (repeat (first | exact bnil _ | refine Below.drew ?_ | refine bnew ?_ _))))
          clear hK K
          try simp only [Act.put, List.setIfInBounds_toArray, List.set_cons_zero, List.set_cons_succ]
          refine wpAnyH_take (i := 10) (oi := ⟨some 73, _, _, _, _, _⟩) (v := ?_) rfl (by kernel_rfl) (by kernel_rfl) (by kernel_rfl) (fun _ _ _ h => h) (Or.inl ⟨by rfl, ?_⟩) (by assumption) ?_
          rotate_left
          · intro w hSw; (try dsimp only at hSw); go_simp <;> with_reducible rfl
          try simp only [Act.put, List.setIfInBounds_toArray, List.set_cons_zero, List.set_cons_succ]
          refine wpAnyH_ready (rs := [12]) (by kernel_rfl) (by simp) ?_
          refine AllReadyH.cons (o := ⟨some 75, _, _, _, _, _⟩) rfl (fun K hK => ?_) AllReadyH.nil
          go_simp
          refine hK.out _ _ ?_ (fun hHeld => ?_)
          · (try dsimp only); (first | assumption | exact ⟨c2x, f3⟩ | exact HZ.1 | exact HZ.2.2 _ | (refine sees2f ?_ c2x c3 f3; (repeat (first | exact bnil _ | refine Below.drew ?_ | refine bnew ?_ _))))
          clear hK K
          try simp only [Act.put, List.setIfInBounds_toArray, List.set_cons_zero, List.set_cons_succ]
          refine wpAnyH_take (i := 13) (oi := ⟨some 76, _, _, _, _, _⟩) (v := ?_) rfl (by kernel_rfl) (by kernel_rfl) (by kernel_rfl) (fun _ _ _ h => h) (Or.inl ⟨by rfl, ?_⟩) (by assumption) ?_
          rotate_left
          · intro w hSw; (try dsimp only at hSw); go_simp <;> with_reducible rfl
          try simp only [Act.put, List.setIfInBounds_toArray, List.set_cons_zero, List.set_cons_succ]
          refine wpAnyH_ready (rs := [14]) (by kernel_rfl) (by simp) ?_
          refine AllReadyH.cons (o := ⟨some 77, _, _, _, _, _⟩) rfl (fun K hK => ?_) AllReadyH.nil
          go_simp
          refine hK.out _ _ ?_ (fun hHeld => ?_)
          · (try dsimp only); (first | assumption | exact ⟨c2x, f3⟩ | exact HZ.1 | exact HZ.2.2 _ | (refine sees2f ?_ c2x c3 f3; (repeat (first | exact bnil _ | refine Below.drew ?_ | refine bnew ?_ _))))
          clear hK K
          try simp only [Act.put, List.setIfInBounds_toArray, List.set_cons_zero, List.set_cons_succ]
          refine wpAnyH_ready (rs := [15]) (by kernel_rfl) (by simp) ?_
          refine AllReadyH.cons (o := ⟨some 78, _, _, _, _, _⟩) rfl (fun K hK => ?_) AllReadyH.nil
          (first | (refine step_appC elmCN gS_one rfl (.tmp 70) (.tmp 77) rfl (.slice Aj L cj) (((eth N ofs i t 0 0) t).zip (av t)) rfl (HR.out.row _ (bnew (bnew (bnew (bnil _) _) _) _).drew) [((⟨0, [(t : Int)]⟩ : VCall), (⟨some ⟨wr.heap.size, 0, none⟩, 1, 1⟩ : SV)), ((⟨1, [(t : Int)]⟩ : VCall), (⟨some ⟨wr.heap.size + 1, 0, none⟩, 1, 1⟩ : SV))] y0 HYE0 rfl (Sl.drew (Sl.fresh' _ #[_, _, _, _] 35 2 2 _ (by simp) rfl)) rfl (by rw [HYL0.out]; simp only [maxLen]; omega) (by rw [HYL0.out]; omega) (Nat.le_trans HR.out.size (bnew (bnew (bnew (bnil _) _) _) _).drew.size) ?_; intro E6 c6 w6 hc6 hc7 HN6 HG6 HO6; have HZ := HR.out.grow _ w6 (bnew (bnew (bnew (bnil _) _) _) _).drew HG6.out) | (refine step_appC elmCN gS_one rfl (.tmp 70) (.tmp 77) rfl (.slice Aj L cj) (((eth N ofs i t 0 0) t).zip (av t)) rfl (HR.out.row _ (bnew (bnew (bnew (bnil _) _) _) _).drew) [((⟨0, [(t : Int)]⟩ : VCall), (⟨some ⟨wr.heap.size + 1, 0, none⟩, 1, 1⟩ : SV)), ((⟨1, [(t : Int)]⟩ : VCall), (⟨some ⟨wr.heap.size, 0, none⟩, 1, 1⟩ : SV))] y1 HYE1 rfl (Sl.drew (Sl.fresh' _ #[_, _, _, _] 35 2 2 _ (by simp) rfl)) rfl (by rw [HYL1.out]; simp only [maxLen]; omega) (by rw [HYL1.out]; omega) (Nat.le_trans HR.out.size (bnew (bnew (bnew (bnil _) _) _) _).drew.size) ?_; intro E6 c6 w6 hc6 hc7 HN6 HG6 HO6; have HZ := HR.out.grow _ w6 (bnew (bnew (bnew (bnil _) _) _) _).drew HG6.out))
          refine hK.out _ _ ?_ (fun hHeld => ?_)
          · (try dsimp only); (first | assumption | exact ⟨c2x, f3⟩ | exact HZ.1 | exact HZ.2.2 _ | (refine sees2f ?_ c2x c3 f3; (repeat (first | exact bnil _ | refine Below.drew ?_ | refine bnew ?_ _))))
          clear hK K
          try simp only [Act.put, List.setIfInBounds_toArray, List.set_cons_zero, List.set_cons_succ]
          refine wpAnyH_take (i := 16) (oi := ⟨some 79, _, _, _, _, _⟩) (v := ?_) rfl (by kernel_rfl) (by kernel_rfl) (by kernel_rfl) (fun _ _ _ h => h) (Or.inl ⟨by rfl, ?_⟩) (by assumption) ?_
          rotate_left
          · intro w hSw; (try dsimp only at hSw); go_simp <;> with_reducible rfl
          try simp only [Act.put, List.setIfInBounds_toArray, List.set_cons_zero, List.set_cons_succ]
          refine wpAnyH_ready (rs := [17]) (by kernel_rfl) (by simp) ?_
          refine AllReadyH.cons (o := ⟨none, _, _, _, _, _⟩) rfl (fun K hK => ?_) AllReadyH.nil
          go_simp
          refine hK.out _ _ ?_ (fun hHeld => ?_)
          · (try dsimp only); (first | assumption | exact ⟨c2x, f3⟩ | exact HZ.1 | exact HZ.2.2 _ | (refine sees2f ?_ c2x c3 f3; (repeat (first | exact bnil _ | refine Below.drew ?_ | refine bnew ?_ _))))
          clear hK K
          try dsimp only [Act.put]
          refine wpAnyH_done (by kernel_rfl) ?_ _
          rotate_left
          refine AllReadyH.cons (o := ⟨some 75, _, _, _, _, _⟩) rfl (fun K hK => ?_) AllReadyH.nil
          go_simp
          refine hK.out _ _ ?_ (fun hHeld => ?_)
          · (try dsimp only); (first | assumption | exact ⟨c2x, f3⟩ | exact HZ.1 | exact HZ.2.2 _ | (refine sees2f ?_ c2x c3 f3; (repeat (first | exact bnil _ | refine Below.drew ?_ | refine bnew ?_ _))))
          clear hK K
          try simp only [Act.put, List.setIfInBounds_toArray, List.set_cons_zero, List.set_cons_succ]
          refine wpAnyH_take (i := 13) (oi := ⟨some 76, _, _, _, _, _⟩) (v := ?_) rfl (by kernel_rfl) (by kernel_rfl) (by kernel_rfl) (fun _ _ _ h => h) (Or.inl ⟨by rfl, ?_⟩) (by assumption) ?_
          rotate_left
          · intro w hSw; (try dsimp only at hSw); go_simp <;> with_reducible rfl
          try simp only [Act.put, List.setIfInBounds_toArray, List.set_cons_zero, List.set_cons_succ]
          refine wpAnyH_ready (rs := [9]) (by kernel_rfl) (by simp) ?_
          refine AllReadyH.cons (o := ⟨some 72, _, _, _, _, _⟩) rfl (fun K hK => ?_) AllReadyH.nil
          go_simp
          refine hK.out _ _ ?_ (fun hHeld => ?_)
          · (try dsimp only); (first | assumption | exact ⟨c2x, f3⟩ | exact HZ.1 | exact HZ.2.2 _ | (refine sees2f ?_ c2x c3 f3; (repeat (first | exact bnil _ | refine Below.drew ?_ | refine bnew ?_ _))))
          clear hK K
          try simp only [Act.put, List.setIfInBounds_toArray, List.set_cons_zero, List.set_cons_succ]
          refine wpAnyH_take (i := 10) (oi := ⟨some 73, _, _, _, _, _⟩) (v := ?_) rfl (by kernel_rfl) (by kernel_rfl) (by kernel_rfl) (fun _ _ _ h => h) (Or.inl ⟨by rfl, ?_⟩) (by assumption) ?_
          rotate_left
          · intro w hSw; (try dsimp only at hSw); go_simp <;> with_reducible rfl
          try simp only [Act.put, List.setIfInBounds_toArray, List.set_cons_zero, List.set_cons_succ]
          refine wpAnyH_ready (rs := [14]) (by kernel_rfl) (by simp) ?_
          refine AllReadyH.cons (o := ⟨some 77, _, _, _, _, _⟩) rfl (fun K hK => ?_) AllReadyH.nil
          go_simp
          refine hK.out _ _ ?_ (fun hHeld => ?_)
          · (try dsimp only); (first | assumption | exact ⟨c2x, f3⟩ | exact HZ.1 | exact HZ.2.2 _ | (refine sees2f ?_ c2x c3 f3; (repeat (first | exact bnil _ | refine Below.drew ?_ | refine bnew ?_ _))))
          clear hK K
          try simp only [Act.put, List.setIfInBounds_toArray, List.set_cons_zero, List.set_cons_succ]
          refine wpAnyH_ready (rs := [15]) (by kernel_rfl) (by simp) ?_
          refine AllReadyH.cons (o := ⟨some 78, _, _, _, _, _⟩) rfl (fun K hK => ?_) AllReadyH.nil
          (first | (refine step_appC elmCN gS_one rfl (.tmp 70) (.tmp 77) rfl (.slice Aj L cj) (((eth N ofs i t 0 0) t).zip (av t)) rfl (HR.out.row _ (bnew (bnew (bnew (bnil _) _) _) _).drew) [((⟨0, [(t : Int)]⟩ : VCall), (⟨some ⟨wr.heap.size, 0, none⟩, 1, 1⟩ : SV)), ((⟨1, [(t : Int)]⟩ : VCall), (⟨some ⟨wr.heap.size + 1, 0, none⟩, 1, 1⟩ : SV))] y0 HYE0 rfl (Sl.drew (Sl.fresh' _ #[_, _, _, _] 35 2 2 _ (by simp) rfl)) rfl (by rw [HYL0.out]; simp only [maxLen]; omega) (by rw [HYL0.out]; omega) (Nat.le_trans HR.out.size (bnew (bnew (bnew (bnil _) _) _) _).drew.size) ?_; intro E6 c6 w6 hc6 hc7 HN6 HG6 HO6; have HZ := HR.out.grow _ w6 (bnew (bnew (bnew (bnil _) _) _) _).drew HG6.out) | (refine step_appC elmCN gS_one rfl (.tmp 70) (.tmp 77) rfl (.slice Aj L cj) (((eth N ofs i t 0 0) t).zip (av t)) rfl (HR.out.row _ (bnew (bnew (bnew (bnil _) _) _) _).drew) [((⟨0, [(t : Int)]⟩ : VCall), (⟨some ⟨wr.heap.size + 1, 0, none⟩, 1, 1⟩ : SV)), ((⟨1, [(t : Int)]⟩ : VCall), (⟨some ⟨wr.heap.size, 0, none⟩, 1, 1⟩ : SV))] y1 HYE1 rfl (Sl.drew (Sl.fresh' _ #[_, _, _, _] 35 2 2 _ (by simp) rfl)) rfl (by rw [HYL1.out]; simp only [maxLen]; omega) (by rw [HYL1.out]; omega) (Nat.le_trans HR.out.size (bnew (bnew (bnew (bnil _) _) _) _).drew.size) ?_; intro E6 c6 w6 hc6 hc7 HN6 HG6 HO6; have HZ := HR.out.grow _ w6 (bnew (bnew (bnew (bnil _) _) _) _).drew HG6.out))
          refine hK.out _ _ ?_ (fun hHeld => ?_)
          · (try dsimp only); (first | assumption | exact ⟨c2x, f3⟩ | exact HZ.1 | exact HZ.2.2 _ | (refine sees2f ?_ c2x c3 f3; (repeat (first | exact bnil _ | refine Below.drew ?_ | refine bnew ?_ _))))
          clear hK K
          try simp only [Act.put, List.setIfInBounds_toArray, List.set_cons_zero, List.set_cons_succ]
          refine wpAnyH_take (i := 16) (oi := ⟨some 79, _, _, _, _, _⟩) (v := ?_) rfl (by kernel_rfl) (by kernel_rfl) (by kernel_rfl) (fun _ _ _ h => h) (Or.inl ⟨by rfl, ?_⟩) (by assumption) ?_
          rotate_left
          · intro w hSw; (try dsimp only at hSw); go_simp <;> with_reducible rfl
          try simp only [Act.put, List.setIfInBounds_toArray, List.set_cons_zero, List.set_cons_succ]
          refine wpAnyH_ready (rs := [17]) (by kernel_rfl) (by simp) ?_
          refine AllReadyH.cons (o := ⟨none, _, _, _, _, _⟩) rfl (fun K hK => ?_) AllReadyH.nil
          go_simp
          refine hK.out _ _ ?_ (fun hHeld => ?_)
          · (try dsimp only); (first | assumption | exact ⟨c2x, f3⟩ | exact HZ.1 | exact HZ.2.2 _ | (refine sees2f ?_ c2x c3 f3; (repeat (first | exact bnil _ | refine Below.drew ?_ | refine bnew ?_ _))))
          clear hK K
          try dsimp only [Act.put]
          refine wpAnyH_done (by kernel_rfl) ?_ _
          rotate_left
          refine AllReadyH.cons (o := ⟨some 72, _, _, _, _, _⟩) rfl (fun K hK => ?_) ?_
          go_simp
          refine hK.out _ _ ?_ (fun hHeld => ?_)
          · (try dsimp only); (first | assumption | exact ⟨c2x, f3⟩ | exact HZ.1 | exact HZ.2.2 _ | (refine sees2f ?_ c2x c3 f3; (repeat (first | exact bnil _ | refine Below.drew ?_ | refine bnew ?_ _))))
          clear hK K
          try simp only [Act.put, List.setIfInBounds_toArray, List.set_cons_zero, List.set_cons_succ]
          refine wpAnyH_take (i := 10) (oi := ⟨some 73, _, _, _, _, _⟩) (v := ?_) rfl (by kernel_rfl) (by kernel_rfl) (by kernel_rfl) (fun _ _ _ h => h) (Or.inl ⟨by rfl, ?_⟩) (by assumption) ?_
          rotate_left
          · intro w hSw; (try dsimp only at hSw); go_simp <;> with_reducible rfl
          try simp only [Act.put, List.setIfInBounds_toArray, List.set_cons_zero, List.set_cons_succ]
          refine wpAnyH_ready (rs := [7, 12]) (by kernel_rfl) (by simp) ?_
          refine AllReadyH.cons (o := ⟨some 70, _, _, _, _, _⟩) rfl (fun K hK => ?_) ?_
          go_simp
          refine hK.out _ _ ?_ (fun hHeld => ?_)
          · (try dsimp only); (first | assumption | exact ⟨c2x, f3⟩ | exact HZ.1 | exact HZ.2.2 _ | (refine sees2f ?_ c2x c3 f3; (repeat (first | exact bnil _ | refine Below.drew ?_ | refine bnew ?_ _))))
          clear hK K
          try simp only [Act.put, List.setIfInBounds_toArray, List.set_cons_zero, List.set_cons_succ]
          refine wpAnyH_ready (rs := [12]) (by kernel_rfl) (by simp) ?_
          refine AllReadyH.cons (o := ⟨some 75, _, _, _, _, _⟩) rfl (fun K hK => ?_) AllReadyH.nil
          go_simp
          refine hK.out _ _ ?_ (fun hHeld => ?_)
          · (try dsimp only); (first | assumption | exact ⟨c2x, f3⟩ | exact HZ.1 | exact HZ.2.2 _ | (refine sees2f ?_ c2x c3 f3; (repeat (first | exact bnil _ | refine Below.drew ?_ | refine bnew ?_ _))))
          clear hK K
          try simp only [Act.put, List.setIfInBounds_toArray, List.set_cons_zero, List.set_cons_succ]
          refine wpAnyH_take (i := 13) (oi := ⟨some 76, _, _, _, _, _⟩) (v := ?_) rfl (by kernel_rfl) (by kernel_rfl) (by kernel_rfl) (fun _ _ _ h => h) (Or.inl ⟨by rfl, ?_⟩) (by assumption) ?_
          rotate_left
          · intro w hSw; (try dsimp only at hSw); go_simp <;> with_reducible rfl
          try simp only [Act.put, List.setIfInBounds_toArray, List.set_cons_zero, List.set_cons_succ]
          refine wpAnyH_ready (rs := [14]) (by kernel_rfl) (by simp) ?_
          refine AllReadyH.cons (o := ⟨some 77, _, _, _, _, _⟩) rfl (fun K hK => ?_) AllReadyH.nil
          go_simp
          refine hK.out _ _ ?_ (fun hHeld => ?_)
          · (try dsimp only); (first | assumption | exact ⟨c2x, f3⟩ | exact HZ.1 | exact HZ.2.2 _ | (refine sees2f ?_ c2x c3 f3; (repeat (first | exact bnil _ | refine Below.drew ?_ | refine bnew ?_ _))))
          clear hK K
          try simp only [Act.put, List.setIfInBounds_toArray, List.set_cons_zero, List.set_cons_succ]
          refine wpAnyH_ready (rs := [15]) (by kernel_rfl) (by simp) ?_
          refine AllReadyH.cons (o := ⟨some 78, _, _, _, _, _⟩) rfl (fun K hK => ?_) AllReadyH.nil
          (first | (refine step_appC elmCN gS_one rfl (.tmp 70) (.tmp 77) rfl (.slice Aj L cj) (((eth N ofs i t 0 0) t).zip (av t)) rfl (HR.out.row _ (bnew (bnew (bnew (bnil _) _) _) _).drew) [((⟨0, [(t : Int)]⟩ : VCall), (⟨some ⟨wr.heap.size, 0, none⟩, 1, 1⟩ : SV)), ((⟨1, [(t : Int)]⟩ : VCall), (⟨some ⟨wr.heap.size + 1, 0, none⟩, 1, 1⟩ : SV))] y0 HYE0 rfl (Sl.drew (Sl.fresh' _ #[_, _, _, _] 35 2 2 _ (by simp) rfl)) rfl (by rw [HYL0.out]; simp only [maxLen]; omega) (by rw [HYL0.out]; omega) (Nat.le_trans HR.out.size (bnew (bnew (bnew (bnil _) _) _) _).drew.size) ?_; intro E6 c6 w6 hc6 hc7 HN6 HG6 HO6; have HZ := HR.out.grow _ w6 (bnew (bnew (bnew (bnil _) _) _) _).drew HG6.out) | (refine step_appC elmCN gS_one rfl (.tmp 70) (.tmp 77) rfl (.slice Aj L cj) (((eth N ofs i t 0 0) t).zip (av t)) rfl (HR.out.row _ (bnew (bnew (bnew (bnil _) _) _) _).drew) [((⟨0, [(t : Int)]⟩ : VCall), (⟨some ⟨wr.heap.size + 1, 0, none⟩, 1, 1⟩ : SV)), ((⟨1, [(t : Int)]⟩ : VCall), (⟨some ⟨wr.heap.size, 0, none⟩, 1, 1⟩ : SV))] y1 HYE1 rfl (Sl.drew (Sl.fresh' _ #[_, _, _, _] 35 2 2 _ (by simp) rfl)) rfl (by rw [HYL1.out]; simp only [maxLen]; omega) (by rw [HYL1.out]; omega) (Nat.le_trans HR.out.size (bnew (bnew (bnew (bnil _) _) _) _).drew.size) ?_; intro E6 c6 w6 hc6 hc7 HN6 HG6 HO6; have HZ := HR.out.grow _ w6 (bnew (bnew (bnew (bnil _) _) _) _).drew HG6.out))
          refine hK.out _ _ ?_ (fun hHeld => ?_)
          · (try dsimp only); (first | assumption | exact ⟨c2x, f3⟩ | exact HZ.1 | exact HZ.2.2 _ | (refine sees2f ?_ c2x c3 f3; (repeat (first | exact bnil _ | refine Below.drew ?_ | refine bnew ?_ _))))
          clear hK K
          try simp only [Act.put, List.setIfInBounds_toArray, List.set_cons_zero, List.set_cons_succ]
          refine wpAnyH_take (i := 16) (oi := ⟨some 79, _, _, _, _, _⟩) (v := ?_) rfl (by kernel_rfl) (by kernel_rfl) (by kernel_rfl) (fun _ _ _ h => h) (Or.inl ⟨by rfl, ?_⟩) (by assumption) ?_
          rotate_left
          · intro w hSw; (try dsimp only at hSw); go_simp <;> with_reducible rfl
          try simp only [Act.put, List.setIfInBounds_toArray, List.set_cons_zero, List.set_cons_succ]
          refine wpAnyH_ready (rs := [17]) (by kernel_rfl) (by simp) ?_
          refine AllReadyH.cons (o := ⟨none, _, _, _, _, _⟩) rfl (fun K hK => ?_) AllReadyH.nil
          go_simp
          refine hK.out _ _ ?_ (fun hHeld => ?_)
          · (try dsimp only); (first | assumption | exact ⟨c2x, f3⟩ | exact HZ.1 | exact HZ.2.2 _ | (refine sees2f ?_ c2x c3 f3; (repeat (first | exact bnil _ | refine Below.drew ?_ | refine bnew ?_ _))))
          clear hK K
          try dsimp only [Act.put]
          refine wpAnyH_done (by kernel_rfl) ?_ _
          rotate_left
          refine AllReadyH.cons (o := ⟨some 75, _, _, _, _, _⟩) rfl (fun K hK => ?_) AllReadyH.nil
          go_simp
          refine hK.out _ _ ?_ (fun hHeld => ?_)
          · (try dsimp only); (first | assumption | exact ⟨c2x, f3⟩ | exact HZ.1 | exact HZ.2.2 _ | (refine sees2f ?_ c2x c3 f3; (repeat (first | exact bnil _ | refine Below.drew ?_ | refine bnew ?_ _))))
          clear hK K
          try simp only [Act.put, List.setIfInBounds_toArray, List.set_cons_zero, List.set_cons_succ]
          refine wpAnyH_take (i := 13) (oi := ⟨some 76, _, _, _, _, _⟩) (v := ?_) rfl (by kernel_rfl) (by kernel_rfl) (by kernel_rfl) (fun _ _ _ h => h) (Or.inl ⟨by rfl, ?_⟩) (by assumption) ?_
          rotate_left
          · intro w hSw; (try dsimp only at hSw); go_simp <;> with_reducible rfl
          try simp only [Act.put, List.setIfInBounds_toArray, List.set_cons_zero, List.set_cons_succ]
          refine wpAnyH_ready (rs := [7, 14]) (by kernel_rfl) (by simp) ?_
          refine AllReadyH.cons (o := ⟨some 70, _, _, _, _, _⟩) rfl (fun K hK => ?_) ?_
          go_simp
          refine hK.out _ _ ?_ (fun hHeld => ?_)
          · (try dsimp only); (first | assumption | exact ⟨c2x, f3⟩ | exact HZ.1 | exact HZ.2.2 _ | (refine sees2f ?_ c2x c3 f3; (repeat (first | exact bnil _ | refine Below.drew ?_ | refine bnew ?_ _))))
          clear hK K
          try simp only [Act.put, List.setIfInBounds_toArray, List.set_cons_zero, List.set_cons_succ]
          refine wpAnyH_ready (rs := [14]) (by kernel_rfl) (by simp) ?_
          refine AllReadyH.cons (o := ⟨some 77, _, _, _, _, _⟩) rfl (fun K hK => ?_) AllReadyH.nil
          go_simp
          refine hK.out _ _ ?_ (fun hHeld => ?_)
          · (try dsimp only); (first | assumption | exact ⟨c2x, f3⟩ | exact HZ.1 | exact HZ.2.2 _ | (refine sees2f ?_ c2x c3 f3; (repeat (first | exact bnil _ | refine Below.drew ?_ | refine bnew ?_ _))))
          clear hK K
          try simp only [Act.put, List.setIfInBounds_toArray, List.set_cons_zero, List.set_cons_succ]
          refine wpAnyH_ready (rs := [15]) (by kernel_rfl) (by simp) ?_
          refine AllReadyH.cons (o := ⟨some 78, _, _, _, _, _⟩) rfl (fun K hK => ?_) AllReadyH.nil
          (first | (refine step_appC elmCN gS_one rfl (.tmp 70) (.tmp 77) rfl (.slice Aj L cj) (((eth N ofs i t 0 0) t).zip (av t)) rfl (HR.out.row _ (bnew (bnew (bnew (bnil _) _) _) _).drew) [((⟨0, [(t : Int)]⟩ : VCall), (⟨some ⟨wr.heap.size, 0, none⟩, 1, 1⟩ : SV)), ((⟨1, [(t : Int)]⟩ : VCall), (⟨some ⟨wr.heap.size + 1, 0, none⟩, 1, 1⟩ : SV))] y0 HYE0 rfl (Sl.drew (Sl.fresh' _ #[_, _, _, _] 35 2 2 _ (by simp) rfl)) rfl (by rw [HYL0.out]; simp only [maxLen]; omega) (by rw [HYL0.out]; omega) (Nat.le_trans HR.out.size (bnew (bnew (bnew (bnil _) _) _) _).drew.size) ?_; intro E6 c6 w6 hc6 hc7 HN6 HG6 HO6; have HZ := HR.out.grow _ w6 (bnew (bnew (bnew (bnil _) _) _) _).drew HG6.out) | (refine step_appC elmCN gS_one rfl (.tmp 70) (.tmp 77) rfl (.slice Aj L cj) (((eth N ofs i t 0 0) t).zip (av t)) rfl (HR.out.row _ (bnew (bnew (bnew (bnil _) _) _) _).drew) [((⟨0, [(t : Int)]⟩ : VCall), (⟨some ⟨wr.heap.size + 1, 0, none⟩, 1, 1⟩ : SV)), ((⟨1, [(t : Int)]⟩ : VCall), (⟨some ⟨wr.heap.size, 0, none⟩, 1, 1⟩ : SV))] y1 HYE1 rfl (Sl.drew (Sl.fresh' _ #[_, _, _, _] 35 2 2 _ (by simp) rfl)) rfl (by rw [HYL1.out]; simp only [maxLen]; omega) (by rw [HYL1.out]; omega) (Nat.le_trans HR.out.size (bnew (bnew (bnew (bnil _) _) _) _).drew.size) ?_; intro E6 c6 w6 hc6 hc7 HN6 HG6 HO6; have HZ := HR.out.grow _ w6 (bnew (bnew (bnew (bnil _) _) _) _).drew HG6.out))
          refine hK.out _ _ ?_ (fun hHeld => ?_)
          · (try dsimp only); (first | assumption | exact ⟨c2x, f3⟩ | exact HZ.1 | exact HZ.2.2 _ | (refine sees2f ?_ c2x c3 f3; (repeat (first | exact bnil _ | refine Below.drew ?_ | refine bnew ?_ _))))
          clear hK K
          try simp only [Act.put, List.setIfInBounds_toArray, List.set_cons_zero, List.set_cons_succ]
          refine wpAnyH_take (i := 16) (oi := ⟨some 79, _, _, _, _, _⟩) (v := ?_) rfl (by kernel_rfl) (by kernel_rfl) (by kernel_rfl) (fun _ _ _ h => h) (Or.inl ⟨by rfl, ?_⟩) (by assumption) ?_
          rotate_left
          · intro w hSw; (try dsimp only at hSw); go_simp <;> with_reducible rfl
          try simp only [Act.put, List.setIfInBounds_toArray, List.set_cons_zero, List.set_cons_succ]
          refine wpAnyH_ready (rs := [17]) (by kernel_rfl) (by simp) ?_
          refine AllReadyH.cons (o := ⟨none, _, _, _, _, _⟩) rfl (fun K hK => ?_) AllReadyH.nil
          go_simp
          refine hK.out _ _ ?_ (fun hHeld => ?_)
          · (try dsimp only); (first | assumption | exact ⟨c2x, f3⟩ | exact HZ.1 | exact HZ.2.2 _ | (refine sees2f ?_ c2x c3 f3; (repeat (first | exact bnil _ | refine Below.drew ?_ | refine bnew ?_ _))))
          clear hK K
          try dsimp only [Act.put]
          refine wpAnyH_done (by kernel_rfl) ?_ _
          rotate_left
          refine AllReadyH.cons (o := ⟨some 77, _, _, _, _, _⟩) rfl (fun K hK => ?_) AllReadyH.nil
          go_simp
          refine hK.out _ _ ?_ (fun hHeld => ?_)
          · (try dsimp only); (first | assumption | exact ⟨c2x, f3⟩ | exact HZ.1 | exact HZ.2.2 _ | (refine sees2f ?_ c2x c3 f3; (repeat (first | exact bnil _ | refine Below.drew ?_ | refine bnew ?_ _))))
          clear hK K
          try simp only [Act.put, List.setIfInBounds_toArray, List.set_cons_zero, List.set_cons_succ]
          refine wpAnyH_ready (rs := [7]) (by kernel_rfl) (by simp) ?_
          refine AllReadyH.cons (o := ⟨some 70, _, _, _, _, _⟩) rfl (fun K hK => ?_) AllReadyH.nil
          go_simp
          refine hK.out _ _ ?_ (fun hHeld => ?_)
          · (try dsimp only); (first | assumption | exact ⟨c2x, f3⟩ | exact HZ.1 | exact HZ.2.2 _ | (refine sees2f ?_ c2x c3 f3; (repeat (first | exact bnil _ | refine Below.drew ?_ | refine bnew ?_ _))))
          clear hK K
          try simp only [Act.put, List.setIfInBounds_toArray, List.set_cons_zero, List.set_cons_succ]
          refine wpAnyH_ready (rs := [15]) (by kernel_rfl) (by simp) ?_
          refine AllReadyH.cons (o := ⟨some 78, _, _, _, _, _⟩) rfl (fun K hK => ?_) AllReadyH.nil
          (first | (refine step_appC elmCN gS_one rfl (.tmp 70) (.tmp 77) rfl (.slice Aj L cj) (((eth N ofs i t 0 0) t).zip (av t)) rfl (HR.out.row _ (bnew (bnew (bnew (bnil _) _) _) _).drew) [((⟨0, [(t : Int)]⟩ : VCall), (⟨some ⟨wr.heap.size, 0, none⟩, 1, 1⟩ : SV)), ((⟨1, [(t : Int)]⟩ : VCall), (⟨some ⟨wr.heap.size + 1, 0, none⟩, 1, 1⟩ : SV))] y0 HYE0 rfl (Sl.drew (Sl.fresh' _ #[_, _, _, _] 35 2 2 _ (by simp) rfl)) rfl (by rw [HYL0.out]; simp only [maxLen]; omega) (by rw [HYL0.out]; omega) (Nat.le_trans HR.out.size (bnew (bnew (bnew (bnil _) _) _) _).drew.size) ?_; intro E6 c6 w6 hc6 hc7 HN6 HG6 HO6; have HZ := HR.out.grow _ w6 (bnew (bnew (bnew (bnil _) _) _) _).drew HG6.out) | (refine step_appC elmCN gS_one rfl (.tmp 70) (.tmp 77) rfl (.slice Aj L cj) (((eth N ofs i t 0 0) t).zip (av t)) rfl (HR.out.row _ (bnew (bnew (bnew (bnil _) _) _) _).drew) [((⟨0, [(t : Int)]⟩ : VCall), (⟨some ⟨wr.heap.size + 1, 0, none⟩, 1, 1⟩ : SV)), ((⟨1, [(t : Int)]⟩ : VCall), (⟨some ⟨wr.heap.size, 0, none⟩, 1, 1⟩ : SV))] y1 HYE1 rfl (Sl.drew (Sl.fresh' _ #[_, _, _, _] 35 2 2 _ (by simp) rfl)) rfl (by rw [HYL1.out]; simp only [maxLen]; omega) (by rw [HYL1.out]; omega) (Nat.le_trans HR.out.size (bnew (bnew (bnew (bnil _) _) _) _).drew.size) ?_; intro E6 c6 w6 hc6 hc7 HN6 HG6 HO6; have HZ := HR.out.grow _ w6 (bnew (bnew (bnew (bnil _) _) _) _).drew HG6.out))
          refine hK.out _ _ ?_ (fun hHeld => ?_)
          · (try dsimp only); (first | assumption | exact ⟨c2x, f3⟩ | exact HZ.1 | exact HZ.2.2 _ | (refine sees2f ?_ c2x c3 f3; (repeat (first | exact bnil _ | refine Below.drew ?_ | refine bnew ?_ _))))
          clear hK K
          try simp only [Act.put, List.setIfInBounds_toArray, List.set_cons_zero, List.set_cons_succ]
          refine wpAnyH_take (i := 16) (oi := ⟨some 79, _, _, _, _, _⟩) (v := ?_) rfl (by kernel_rfl) (by kernel_rfl) (by kernel_rfl) (fun _ _ _ h => h) (Or.inl ⟨by rfl, ?_⟩) (by assumption) ?_
          rotate_left
          · intro w hSw; (try dsimp only at hSw); go_simp <;> with_reducible rfl
          try simp only [Act.put, List.setIfInBounds_toArray, List.set_cons_zero, List.set_cons_succ]
          refine wpAnyH_ready (rs := [17]) (by kernel_rfl) (by simp) ?_
          refine AllReadyH.cons (o := ⟨none, _, _, _, _, _⟩) rfl (fun K hK => ?_) AllReadyH.nil
          go_simp
          refine hK.out _ _ ?_ (fun hHeld => ?_)
          · (try dsimp only); (first | assumption | exact ⟨c2x, f3⟩ | exact HZ.1 | exact HZ.2.2 _ | (refine sees2f ?_ c2x c3 f3; (repeat (first | exact bnil _ | refine Below.drew ?_ | refine bnew ?_ _))))
          clear hK K
          try dsimp only [Act.put]
          refine wpAnyH_done (by kernel_rfl) ?_ _
          rotate_left
          refine AllReadyH.cons (o := ⟨some 75, _, _, _, _, _⟩) rfl (fun K hK => ?_) AllReadyH.nil
          go_simp
          refine hK.out _ _ ?_ (fun hHeld => ?_)
          · (try dsimp only); (first | assumption | exact ⟨c2x, f3⟩ | exact HZ.1 | exact HZ.2.2 _ | (refine sees2f ?_ c2x c3 f3; (repeat (first | exact bnil _ | refine Below.drew ?_ | refine bnew ?_ _))))
          clear hK K
          try simp only [Act.put, List.setIfInBounds_toArray, List.set_cons_zero, List.set_cons_succ]
          refine wpAnyH_take (i := 13) (oi := ⟨some 76, _, _, _, _, _⟩) (v := ?_) rfl (by kernel_rfl) (by kernel_rfl) (by kernel_rfl) (fun _ _ _ h => h) (Or.inl ⟨by rfl, ?_⟩) (by assumption) ?_
          rotate_left
          · intro w hSw; (try dsimp only at hSw); go_simp <;> with_reducible rfl
          try simp only [Act.put, List.setIfInBounds_toArray, List.set_cons_zero, List.set_cons_succ]
          refine wpAnyH_ready (rs := [7, 9]) (by kernel_rfl) (by simp) ?_
          refine AllReadyH.cons (o := ⟨some 70, _, _, _, _, _⟩) rfl (fun K hK => ?_) ?_
          go_simp
          refine hK.out _ _ ?_ (fun hHeld => ?_)
          · (try dsimp only); (first | assumption | exact ⟨c2x, f3⟩ | exact HZ.1 | exact HZ.2.2 _ | (refine sees2f ?_ c2x c3 f3; (repeat (first | exact bnil _ | refine Below.drew ?_ | refine bnew ?_ _))))
          clear hK K
          try simp only [Act.put, List.setIfInBounds_toArray, List.set_cons_zero, List.set_cons_succ]
          refine wpAnyH_ready (rs := [9]) (by kernel_rfl) (by simp) ?_
          refine AllReadyH.cons (o := ⟨some 72, _, _, _, _, _⟩) rfl (fun K hK => ?_) AllReadyH.nil
          go_simp
          refine hK.out _ _ ?_ (fun hHeld => ?_)
          · (try dsimp only); (first | assumption | exact ⟨c2x, f3⟩ | exact HZ.1 | exact HZ.2.2 _ | (refine sees2f ?_ c2x c3 f3; (repeat (first | exact bnil _ | refine Below.drew ?_ | refine bnew ?_ _))))
          clear hK K
          try simp only [Act.put, List.setIfInBounds_toArray, List.set_cons_zero, List.set_cons_succ]
          refine wpAnyH_take (i := 10) (oi := ⟨some 73, _, _, _, _, _⟩) (v := ?_) rfl (by kernel_rfl) (by kernel_rfl) (by kernel_rfl) (fun _ _ _ h => h) (Or.inl ⟨by rfl, ?_⟩) (by assumption) ?_
          rotate_left
          · intro w hSw; (try dsimp only at hSw); go_simp <;> with_reducible rfl
          try simp only [Act.put, List.setIfInBounds_toArray, List.set_cons_zero, List.set_cons_succ]
          refine wpAnyH_ready (rs := [14]) (by kernel_rfl) (by simp) ?_
          refine AllReadyH.cons (o := ⟨some 77, _, _, _, _, _⟩) rfl (fun K hK => ?_) AllReadyH.nil
          go_simp
          refine hK.out _ _ ?_ (fun hHeld => ?_)
          · (try dsimp only); (first | assumption | exact ⟨c2x, f3⟩ | exact HZ.1 | exact HZ.2.2 _ | (refine sees2f ?_ c2x c3 f3; (repeat (first | exact bnil _ | refine Below.drew ?_ | refine bnew ?_ _))))
          clear hK K
          try simp only [Act.put, List.setIfInBounds_toArray, List.set_cons_zero, List.set_cons_succ]
          refine wpAnyH_ready (rs := [15]) (by kernel_rfl) (by simp) ?_
          refine AllReadyH.cons (o := ⟨some 78, _, _, _, _, _⟩) rfl (fun K hK => ?_) AllReadyH.nil
          (first | (refine step_appC elmCN gS_one rfl (.tmp 70) (.tmp 77) rfl (.slice Aj L cj) (((eth N ofs i t 0 0) t).zip (av t)) rfl (HR.out.row _ (bnew (bnew (bnew (bnil _) _) _) _).drew) [((⟨0, [(t : Int)]⟩ : VCall), (⟨some ⟨wr.heap.size, 0, none⟩, 1, 1⟩ : SV)), ((⟨1, [(t : Int)]⟩ : VCall), (⟨some ⟨wr.heap.size + 1, 0, none⟩, 1, 1⟩ : SV))] y0 HYE0 rfl (Sl.drew (Sl.fresh' _ #[_, _, _, _] 35 2 2 _ (by simp) rfl)) rfl (by rw [HYL0.out]; simp only [maxLen]; omega) (by rw [HYL0.out]; omega) (Nat.le_trans HR.out.size (bnew (bnew (bnew (bnil _) _) _) _).drew.size) ?_; intro E6 c6 w6 hc6 hc7 HN6 HG6 HO6; have HZ := HR.out.grow _ w6 (bnew (bnew (bnew (bnil _) _) _) _).drew HG6.out) | (refine step_appC elmCN gS_one rfl (.tmp 70) (.tmp 77) rfl (.slice Aj L cj) (((eth N ofs i t 0 0) t).zip (av t)) rfl (HR.out.row _ (bnew (bnew (bnew (bnil _) _) _) _).drew) [((⟨0, [(t : Int)]⟩ : VCall), (⟨some ⟨wr.heap.size + 1, 0, none⟩, 1, 1⟩ : SV)), ((⟨1, [(t : Int)]⟩ : VCall), (⟨some ⟨wr.heap.size, 0, none⟩, 1, 1⟩ : SV))] y1 HYE1 rfl (Sl.drew (Sl.fresh' _ #[_, _, _, _] 35 2 2 _ (by simp) rfl)) rfl (by rw [HYL1.out]; simp only [maxLen]; omega) (by rw [HYL1.out]; omega) (Nat.le_trans HR.out.size (bnew (bnew (bnew (bnil _) _) _) _).drew.size) ?_; intro E6 c6 w6 hc6 hc7 HN6 HG6 HO6; have HZ := HR.out.grow _ w6 (bnew (bnew (bnew (bnil _) _) _) _).drew HG6.out))
          refine hK.out _ _ ?_ (fun hHeld => ?_)
          · (try dsimp only); (first | assumption | exact ⟨c2x, f3⟩ | exact HZ.1 | exact HZ.2.2 _ | (refine sees2f ?_ c2x c3 f3; (repeat (first | exact bnil _ | refine Below.drew ?_ | refine bnew ?_ _))))
          clear hK K
          try simp only [Act.put, List.setIfInBounds_toArray, List.set_cons_zero, List.set_cons_succ]
          refine wpAnyH_take (i := 16) (oi := ⟨some 79, _, _, _, _, _⟩) (v := ?_) rfl (by kernel_rfl) (by kernel_rfl) (by kernel_rfl) (fun _ _ _ h => h) (Or.inl ⟨by rfl, ?_⟩) (by assumption) ?_
          rotate_left
          · intro w hSw; (try dsimp only at hSw); go_simp <;> with_reducible rfl
          try simp only [Act.put, List.setIfInBounds_toArray, List.set_cons_zero, List.set_cons_succ]
          refine wpAnyH_ready (rs := [17]) (by kernel_rfl) (by simp) ?_
          refine AllReadyH.cons (o := ⟨none, _, _, _, _, _⟩) rfl (fun K hK => ?_) AllReadyH.nil
          go_simp
          refine hK.out _ _ ?_ (fun hHeld => ?_)
          · (try dsimp only); (first | assumption | exact ⟨c2x, f3⟩ | exact HZ.1 | exact HZ.2.2 _ | (refine sees2f ?_ c2x c3 f3; (repeat (first | exact bnil _ | refine Below.drew ?_ | refine bnew ?_ _))))
          clear hK K
          try dsimp only [Act.put]
          refine wpAnyH_done (by kernel_rfl) ?_ _
          rotate_left
          refine AllReadyH.cons (o := ⟨some 72, _, _, _, _, _⟩) rfl (fun K hK => ?_) AllReadyH.nil
          go_simp
          refine hK.out _ _ ?_ (fun hHeld => ?_)
          · (try dsimp only); (first | assumption | exact ⟨c2x, f3⟩ | exact HZ.1 | exact HZ.2.2 _ | (refine sees2f ?_ c2x c3 f3; (repeat (first | exact bnil _ | refine Below.drew ?_ | refine bnew ?_ _))))
          clear hK K
          try simp only [Act.put, List.setIfInBounds_toArray, List.set_cons_zero, List.set_cons_succ]
          refine wpAnyH_take (i := 10) (oi := ⟨some 73, _, _, _, _, _⟩) (v := ?_) rfl (by kernel_rfl) (by kernel_rfl) (by kernel_rfl) (fun _ _ _ h => h) (Or.inl ⟨by rfl, ?_⟩) (by assumption) ?_
          rotate_left
          · intro w hSw; (try dsimp only at hSw); go_simp <;> with_reducible rfl
          try simp only [Act.put, List.setIfInBounds_toArray, List.set_cons_zero, List.set_cons_succ]
          refine wpAnyH_ready (rs := [7, 14]) (by kernel_rfl) (by simp) ?_
          refine AllReadyH.cons (o := ⟨some 70, _, _, _, _, _⟩) rfl (fun K hK => ?_) ?_
          go_simp
          refine hK.out _ _ ?_ (fun hHeld => ?_)
          · (try dsimp only); (first | assumption | exact ⟨c2x, f3⟩ | exact HZ.1 | exact HZ.2.2 _ | (refine sees2f ?_ c2x c3 f3; (repeat (first | exact bnil _ | refine Below.drew ?_ | refine bnew ?_ _))))
          clear hK K
          try simp only [Act.put, List.setIfInBounds_toArray, List.set_cons_zero, List.set_cons_succ]
          refine wpAnyH_ready (rs := [14]) (by kernel_rfl) (by simp) ?_
          refine AllReadyH.cons (o := ⟨some 77, _, _, _, _, _⟩) rfl (fun K hK => ?_) AllReadyH.nil
          go_simp
          refine hK.out _ _ ?_ (fun hHeld => ?_)
          · (try dsimp only); (first | assumption | exact ⟨c2x, f3⟩ | exact HZ.1 | exact HZ.2.2 _ | (refine sees2f ?_ c2x c3 f3; (repeat (first | exact bnil _ | refine Below.drew ?_ | refine bnew ?_ _))))
          clear hK K
          try simp only [Act.put, List.setIfInBounds_toArray, List.set_cons_zero, List.set_cons_succ]
          refine wpAnyH_ready (rs := [15]) (by kernel_rfl) (by simp) ?_
          refine AllReadyH.cons (o := ⟨some 78, _, _, _, _, _⟩) rfl (fun K hK => ?_) AllReadyH.nil
          (first | (refine step_appC elmCN gS_one rfl (.tmp 70) (.tmp 77) rfl (.slice Aj L cj) (((eth N ofs i t 0 0) t).zip (av t)) rfl (HR.out.row _ (bnew (bnew (bnew (bnil _) _) _) _).drew) [((⟨0, [(t : Int)]⟩ : VCall), (⟨some ⟨wr.heap.size, 0, none⟩, 1, 1⟩ : SV)), ((⟨1, [(t : Int)]⟩ : VCall), (⟨some ⟨wr.heap.size + 1, 0, none⟩, 1, 1⟩ : SV))] y0 HYE0 rfl (Sl.drew (Sl.fresh' _ #[_, _, _, _] 35 2 2 _ (by simp) rfl)) rfl (by rw [HYL0.out]; simp only [maxLen]; omega) (by rw [HYL0.out]; omega) (Nat.le_trans HR.out.size (bnew (bnew (bnew (bnil _) _) _) _).drew.size) ?_; intro E6 c6 w6 hc6 hc7 HN6 HG6 HO6; have HZ := HR.out.grow _ w6 (bnew (bnew (bnew (bnil _) _) _) _).drew HG6.out) | (refine step_appC elmCN gS_one rfl (.tmp 70) (.tmp 77) rfl (.slice Aj L cj) (((eth N ofs i t 0 0) t).zip (av t)) rfl (HR.out.row _ (bnew (bnew (bnew (bnil _) _) _) _).drew) [((⟨0, [(t : Int)]⟩ : VCall), (⟨some ⟨wr.heap.size + 1, 0, none⟩, 1, 1⟩ : SV)), ((⟨1, [(t : Int)]⟩ : VCall), (⟨some ⟨wr.heap.size, 0, none⟩, 1, 1⟩ : SV))] y1 HYE1 rfl (Sl.drew (Sl.fresh' _ #[_, _, _, _] 35 2 2 _ (by simp) rfl)) rfl (by rw [HYL1.out]; simp only [maxLen]; omega) (by rw [HYL1.out]; omega) (Nat.le_trans HR.out.size (bnew (bnew (bnew (bnil _) _) _) _).drew.size) ?_; intro E6 c6 w6 hc6 hc7 HN6 HG6 HO6; have HZ := HR.out.grow _ w6 (bnew (bnew (bnew (bnil _) _) _) _).drew HG6.out))
          refine hK.out _ _ ?_ (fun hHeld => ?_)
          · (try dsimp only); (first | assumption | exact ⟨c2x, f3⟩ | exact HZ.1 | exact HZ.2.2 _ | (refine sees2f ?_ c2x c3 f3; (repeat (first | exact bnil _ | refine Below.drew ?_ | refine bnew ?_ _))))
          clear hK K
          try simp only [Act.put, List.setIfInBounds_toArray, List.set_cons_zero, List.set_cons_succ]
          refine wpAnyH_take (i := 16) (oi := ⟨some 79, _, _, _, _, _⟩) (v := ?_) rfl (by kernel_rfl) (by kernel_rfl) (by kernel_rfl) (fun _ _ _ h => h) (Or.inl ⟨by rfl, ?_⟩) (by assumption) ?_
          rotate_left
          · intro w hSw; (try dsimp only at hSw); go_simp <;> with_reducible rfl
          try simp only [Act.put, List.setIfInBounds_toArray, List.set_cons_zero, List.set_cons_succ]
          refine wpAnyH_ready (rs := [17]) (by kernel_rfl) (by simp) ?_
          refine AllReadyH.cons (o := ⟨none, _, _, _, _, _⟩) rfl (fun K hK => ?_) AllReadyH.nil
          go_simp
          refine hK.out _ _ ?_ (fun hHeld => ?_)
          · (try dsimp only); (first | assumption | exact ⟨c2x, f3⟩ | exact HZ.1 | exact HZ.2.2 _ | (refine sees2f ?_ c2x c3 f3; (repeat (first | exact bnil _ | refine Below.drew ?_ | refine bnew ?_ _))))
          clear hK K
          try dsimp only [Act.put]
          refine wpAnyH_done (by kernel_rfl) ?_ _
          rotate_left
          refine AllReadyH.cons (o := ⟨some 77, _, _, _, _, _⟩) rfl (fun K hK => ?_) AllReadyH.nil
          go_simp
          refine hK.out _ _ ?_ (fun hHeld => ?_)
          · (try dsimp only); (first | assumption | exact ⟨c2x, f3⟩ | exact HZ.1 | exact HZ.2.2 _ | (refine sees2f ?_ c2x c3 f3; (repeat (first | exact bnil _ | refine Below.drew ?_ | refine bnew ?_ _))))
          clear hK K
          try simp only [Act.put, List.setIfInBounds_toArray, List.set_cons_zero, List.set_cons_succ]
          refine wpAnyH_ready (rs := [7]) (by kernel_rfl) (by simp) ?_
          refine AllReadyH.cons (o := ⟨some 70, _, _, _, _, _⟩) rfl (fun K hK => ?_) AllReadyH.nil
          go_simp
          refine hK.out _ _ ?_ (fun hHeld => ?_)
          · (try dsimp only); (first | assumption | exact ⟨c2x, f3⟩ | exact HZ.1 | exact HZ.2.2 _ | (refine sees2f ?_ c2x c3 f3; (repeat (first | exact bnil _ | refine Below.drew ?_ | refine bnew ?_ _))))
          clear hK K
          try simp only [Act.put, List.setIfInBounds_toArray, List.set_cons_zero, List.set_cons_succ]
          refine wpAnyH_ready (rs := [15]) (by kernel_rfl) (by simp) ?_
          refine AllReadyH.cons (o := ⟨some 78, _, _, _, _, _⟩) rfl (fun K hK => ?_) AllReadyH.nil
          (first | (refine step_appC elmCN gS_one rfl (.tmp 70) (.tmp 77) rfl (.slice Aj L cj) (((eth N ofs i t 0 0) t).zip (av t)) rfl (HR.out.row _ (bnew (bnew (bnew (bnil _) _) _) _).drew) [((⟨0, [(t : Int)]⟩ : VCall), (⟨some ⟨wr.heap.size, 0, none⟩, 1, 1⟩ : SV)), ((⟨1, [(t : Int)]⟩ : VCall), (⟨some ⟨wr.heap.size + 1, 0, none⟩, 1, 1⟩ : SV))] y0 HYE0 rfl (Sl.drew (Sl.fresh' _ #[_, _, _, _] 35 2 2 _ (by simp) rfl)) rfl (by rw [HYL0.out]; simp only [maxLen]; omega) (by rw [HYL0.out]; omega) (Nat.le_trans HR.out.size (bnew (bnew (bnew (bnil _) _) _) _).drew.size) ?_; intro E6 c6 w6 hc6 hc7 HN6 HG6 HO6; have HZ := HR.out.grow _ w6 (bnew (bnew (bnew (bnil _) _) _) _).drew HG6.out) | (refine step_appC elmCN gS_one rfl (.tmp 70) (.tmp 77) rfl (.slice Aj L cj) (((eth N ofs i t 0 0) t).zip (av t)) rfl (HR.out.row _ (bnew (bnew (bnew (bnil _) _) _) _).drew) [((⟨0, [(t : Int)]⟩ : VCall), (⟨some ⟨wr.heap.size + 1, 0, none⟩, 1, 1⟩ : SV)), ((⟨1, [(t : Int)]⟩ : VCall), (⟨some ⟨wr.heap.size, 0, none⟩, 1, 1⟩ : SV))] y1 HYE1 rfl (Sl.drew (Sl.fresh' _ #[_, _, _, _] 35 2 2 _ (by simp) rfl)) rfl (by rw [HYL1.out]; simp only [maxLen]; omega) (by rw [HYL1.out]; omega) (Nat.le_trans HR.out.size (bnew (bnew (bnew (bnil _) _) _) _).drew.size) ?_; intro E6 c6 w6 hc6 hc7 HN6 HG6 HO6; have HZ := HR.out.grow _ w6 (bnew (bnew (bnew (bnil _) _) _) _).drew HG6.out))
          refine hK.out _ _ ?_ (fun hHeld => ?_)
          · (try dsimp only); (first | assumption | exact ⟨c2x, f3⟩ | exact HZ.1 | exact HZ.2.2 _ | (refine sees2f ?_ c2x c3 f3; (repeat (first | exact bnil _ | refine Below.drew ?_ | refine bnew ?_ _))))
          clear hK K
          try simp only [Act.put, List.setIfInBounds_toArray, List.set_cons_zero, List.set_cons_succ]
          refine wpAnyH_take (i := 16) (oi := ⟨some 79, _, _, _, _, _⟩) (v := ?_) rfl (by kernel_rfl) (by kernel_rfl) (by kernel_rfl) (fun _ _ _ h => h) (Or.inl ⟨by rfl, ?_⟩) (by assumption) ?_
          rotate_left
          · intro w hSw; (try dsimp only at hSw); go_simp <;> with_reducible rfl
          try simp only [Act.put, List.setIfInBounds_toArray, List.set_cons_zero, List.set_cons_succ]
          refine wpAnyH_ready (rs := [17]) (by kernel_rfl) (by simp) ?_
          refine AllReadyH.cons (o := ⟨none, _, _, _, _, _⟩) rfl (fun K hK => ?_) AllReadyH.nil
          go_simp
          refine hK.out _ _ ?_ (fun hHeld => ?_)
          · (try dsimp only); (first | assumption | exact ⟨c2x, f3⟩ | exact HZ.1 | exact HZ.2.2 _ | (refine sees2f ?_ c2x c3 f3; (repeat (first | exact bnil _ | refine Below.drew ?_ | refine bnew ?_ _))))
          clear hK K
          try dsimp only [Act.put]
          refine wpAnyH_done (by kernel_rfl) ?_ _
          rotate_left
          all_goals
            first
              | (have HF := hid (HX.out.app (j := t) (by omega) [⟨0, [(t : Int)]⟩, ⟨1, [(t : Int)]⟩] [⟨some ⟨wr.heap.size, 0, none⟩, 1, 1⟩, ⟨some ⟨wr.heap.size + 1, 0, none⟩, 1, 1⟩] (bnew (bnew (bnew (bnil _) _) _) _).drew rfl (HOF0.out _) HYE0.out (by rw [HAJ.out]; exact HG6.out) (by rw [HAJ.out]; exact HO6.out) HN6.out))
              | (have HF := hid (HX.out.app (j := t) (by omega) [⟨0, [(t : Int)]⟩, ⟨1, [(t : Int)]⟩] [⟨some ⟨wr.heap.size + 1, 0, none⟩, 1, 1⟩, ⟨some ⟨wr.heap.size, 0, none⟩, 1, 1⟩] (bnew (bnew (bnew (bnil _) _) _) _).drew rfl (HOF1.out _) HYE1.out (by rw [HAJ.out]; exact HG6.out) (by rw [HAJ.out]; exact HO6.out) HN6.out))
            clear HZ HG6 HO6 HN6
            go_wp2_with fail
            go_roundw
            case rel => exact ⟨t + 1, _, _, by omega, by go_num, hid (by have h1 := HF.out; rw [eth_r hlt2] at h1; exact h1)⟩
            case measure => simp [intOf]; omega
        · obtain rfl : t = 2 := by omega
          have i2 : ¬ ((2 : Nat) : Int) < 2 := by omega
          rw [eth_n] at HX
          go_wp2_with fail
          go_roundw
          case rel => exact ⟨i + 1, _, _, by omega, by go_num, HX⟩
          case measure => simp [intOf]; omega
    · obtain rfl : i = 10 := by omega
      have i1 : ¬ ((10 : Nat) : Int) < 10 := by omega
      go_wp2_with fail
      go_loopw [19] (fun v wx => ∃ (q : Nat) (tv : Nat → Value) (av : Nat → List SV), q ≤ N ∧ v = .int .i64 q ∧ Hid (MBun w wx w.heap.size nil3 w.heap.size X Cb T 4 4 (.slice AW (N + 5) cW) (List.replicate (N + 5) (0 : Int)) (fun i => [.slice A1 4 c1, .slice A2 1 c2, .slice A3 7 c3, .slice A4 25 c4].getD i undef) (fun i => [epinCode, eunpinCode, eretireCode, efreeCode N].getD i []) tv (eth N ofs 10 0 q 0) av)) (fun v _ => N - (intOf v).toNat)
      case atStart => exact ⟨0, _, _, Nat.zero_le _, rfl, HX⟩
      case round =>
        clear HX
        clear tv av
        obtain ⟨q, tv, av, hqN, rfl, HX⟩ := hrel
        by_cases hlq : q < N
        · have i2 : (q : Int) < (N : Int) := by omega
          have HLN := hid (show (eth N ofs 10 0 q 0 2).length ≤ 20 by unfold eth; simp; omega)
          have hfacts : (r = 0 ∧ ofs = 0) ∨ (0 < r ∧ ∃ ad x, D = some ad ∧ wr.cell? ad = some (.int .i64 x) ∧ -9223372036854775808 ≤ x ∧ x ≤ 9223372036854775807 ∧ ofs = pk x N) := by
            have e1 := HRL.out; have e2 := HOFS.out; have e3 := HDD.out; have e4 := HCS.out
            cases cs with
            | nil => exact .inl ⟨e1.symm, e2.symm⟩
            | cons x cs =>
              right
              have hr0 : 0 < r := by rw [← e1, List.length_cons]; omega
              obtain ⟨ad, e5, hc⟩ := e3.2 (by omega)
              have c0 := hc 0 (.int .i64 x) rfl
              have c0 : w.cell? ad = some (.int .i64 x) := by unfold Addr.add at c0; simpa using c0
              exact ⟨hr0, ad, x, e5, cell_below HX.out.below c0, (e4 x List.mem_cons_self).1, (e4 x List.mem_cons_self).2, e2.symm⟩
          rcases hfacts with ⟨hr0, ho0⟩ | ⟨hr0, ad, x, hDa, cx, hx1, hx2, hox⟩
          · subst hr0
            obtain ⟨kq, hkq⟩ : ∃ kq, kq = q := ⟨_, rfl⟩
            have HKQ := hid (show kq = (q + ofs) % N by rw [ho0, Nat.add_zero, Nat.mod_eq_of_lt hlq]; exact hkq)
            clear ho0
            have HKE := hid hkq
            go_upto_region 20 with fail
            rw [← hkq]
            clear hkq
            have HOF0 := hid (show ∀ (LIT : Obj) (k' : Nat) (c : VCall) (a : SV), ([⟨2, [(kq : Int)]⟩] : List VCall)[k']? = some c → ([⟨some ⟨wr.heap.size, 0, none⟩, 1, 1⟩] : List SV)[k']? = some a → (((wr.alloc (.cells #[.int .i64 (kq : Int)] 3)).alloc LIT).drew).ownsRow w.heap.size 3 1 a.v c.args.length (c.args.flatMap gI) from by
              intro LIT k' c a hc ha
              have hge : w.heap.size ≤ wr.heap.size := HX.out.below.size
              match k', hc, ha with
              | 0, hc, ha =>
                injection hc with hc; injection ha with ha; subst hc ha
                have hB : Blk (((wr.alloc (.cells #[.int .i64 (kq : Int)] 3)).alloc LIT).drew) (wr.heap.size) 3 #[.int .i64 (kq : Int)] := (Blk.new wr _ _).alloc _
                exact ⟨rfl, .inr ⟨wr.heap.size, 1, #[.int .i64 (kq : Int)], rfl, by omega, hB, Nat.le_refl _, by unfold maxLen; omega, rfl, rfl⟩⟩
              | k + 1, hc, ha => cases hc)
            obtain ⟨Aj, cj, hAj, HR0⟩ := HX.out.row (j := 2) (by omega)
            obtain ⟨L, hL⟩ : ∃ L, ((eth N ofs 10 0 q 0) 2).length = L := ⟨_, rfl⟩
            rw [hL] at hAj HR0
            have hL18 : L ≤ 20 := by rw [← hL]; exact HLN.out
            obtain ⟨y0, hy0⟩ : ∃ y, ((eth N ofs 10 0 q 0) 2).zip (av 2) ++ [((⟨2, [(kq : Int)]⟩ : VCall), (⟨some ⟨wr.heap.size, 0, none⟩, 1, 1⟩ : SV))] = y := ⟨_, rfl⟩
            have HYE0 := hid hy0
            have HYL0 := hid (show y0.length = L + 1 by rw [← hy0, List.length_append, HR0.len]; rfl)
            clear hy0
            have HR := hid HR0
            have HAJ := hid hAj
            have c2x := HR.out.c2; have c3 := HR.out.c3; have f3 := HR.out.f3; have hcj := HR.out.hcj; have hcm := HR.out.hcm
            unfold maxLen at hcm
            clear HR0 hAj hL
            have ltT := World.block_lt_of_cell? wr _ c3
            have ltX := World.block_lt_of_cell? wr _ c2x
            have ltT1 : T < wr.heap.size + 1 := Nat.lt_succ_of_lt ltT
            have ltT2 : T < wr.heap.size + 1 + 1 := Nat.lt_succ_of_lt ltT1
            have hq3 : ∀ o1 o2 o3 : Obj, (((wr.alloc o1).alloc o2).alloc o3).cell? ⟨T, 2, none⟩ = some (.slice Aj L cj) := fun o1 o2 o3 => cell_below (bnew (bnew (bnew (bnil wr) o1) o2) o3) c3
            refine wp_region_held_drew (S := (fun w' => w'.cell? ⟨X, 2, none⟩ = some (.slice (some ⟨T, 0, none⟩) 4 4) ∧ w'.frozen? ⟨T, 2, none⟩ = false)) (by kernel_rfl) ?_ (fun hHeld => ?_)
            · (try dsimp only); (first | assumption | exact ⟨c2x, f3⟩ | exact HZ.1 | exact HZ.2.2 _ | (refine sees2f ?_ c2x c3 f3; (repeat (first | exact bnil _ | refine Below.drew ?_ | refine bnew ?_ _))))
            refine wpAnyH_take (i := 0) (oi := ⟨some 98, _, _, _, _, _⟩) (v := ?_) rfl (by kernel_rfl) (by kernel_rfl) (by kernel_rfl) (fun _ _ _ h => h) (Or.inl ⟨by rfl, ?_⟩) (by assumption) ?_
            rotate_left
            · intro w hSw; (try dsimp only at hSw); go_simp <;> with_reducible rfl
            try simp only [Act.put, List.setIfInBounds_toArray, List.set_cons_zero, List.set_cons_succ]
            refine wpAnyH_take (i := 1) (oi := ⟨some 99, _, _, _, _, _⟩) (v := ?_) rfl (by kernel_rfl) (by kernel_rfl) (by kernel_rfl) (fun _ _ _ h => h) (Or.inl ⟨by rfl, ?_⟩) (by assumption) ?_
            rotate_left
            · intro w hSw; (try dsimp only at hSw); go_simp <;> with_reducible rfl
            try simp only [Act.put, List.setIfInBounds_toArray, List.set_cons_zero, List.set_cons_succ]
            refine wpAnyH_take (i := 2) (oi := ⟨some 100, _, _, _, _, _⟩) (v := ?_) rfl (by kernel_rfl) (by kernel_rfl) (by kernel_rfl) (fun _ _ _ h => h) (Or.inl ⟨by rfl, ?_⟩) (by assumption) ?_
            rotate_left
            · intro w hSw; (try dsimp only at hSw); go_simp <;> with_reducible rfl
            try simp only [Act.put, List.setIfInBounds_toArray, List.set_cons_zero, List.set_cons_succ]
            refine wpAnyH_take (i := 3) (oi := ⟨some 101, _, _, _, _, _⟩) (v := ?_) rfl (by kernel_rfl) (by kernel_rfl) (by kernel_rfl) (fun _ _ _ h => h) (Or.inl ⟨by rfl, ?_⟩) (by assumption) ?_
            rotate_left
            · intro w hSw; (try dsimp only at hSw); go_simp <;> with_reducible rfl
            try simp only [Act.put, List.setIfInBounds_toArray, List.set_cons_zero, List.set_cons_succ]
            refine wpAnyH_take (i := 4) (oi := ⟨some 102, _, _, _, _, _⟩) (v := ?_) rfl (by kernel_rfl) (by kernel_rfl) (by kernel_rfl) (fun _ _ _ h => h) (Or.inl ⟨by rfl, ?_⟩) (by assumption) ?_
            rotate_left
            · intro w hSw; (try dsimp only at hSw); go_simp <;> with_reducible rfl
            try simp only [Act.put, List.setIfInBounds_toArray, List.set_cons_zero, List.set_cons_succ]
            refine wpAnyH_take (i := 6) (oi := ⟨some 104, _, _, _, _, _⟩) (v := ?_) rfl (by kernel_rfl) (by kernel_rfl) (by kernel_rfl) (fun _ _ _ h => h) (Or.inl ⟨by rfl, ?_⟩) (by assumption) ?_
            rotate_left
            · intro w hSw; (try dsimp only at hSw); go_simp <;> with_reducible rfl
            try simp only [Act.put, List.setIfInBounds_toArray, List.set_cons_zero, List.set_cons_succ]
            refine wpAnyH_ready (rs := [5, 7]) (by kernel_rfl) (by simp) ?_
            refine AllReadyH.cons (o := ⟨some 103, _, _, _, _, _⟩) rfl (fun K hK => ?_) ?_
            go_simp
            refine hK.out _ _ ?_ (fun hHeld => ?_)
            · (try dsimp only); (first | assumption | exact ⟨c2x, f3⟩ | exact HZ.1 | exact HZ.2.2 _ | (refine sees2f ?_ c2x c3 f3; (repeat (first | exact bnil _ | refine Below.drew ?_ | refine bnew ?_ _))))
            clear hK K
            try simp only [Act.put, List.setIfInBounds_toArray, List.set_cons_zero, List.set_cons_succ]
            refine wpAnyH_ready (rs := [7]) (by kernel_rfl) (by simp) ?_
            refine AllReadyH.cons (o := ⟨some 105, _, _, _, _, _⟩) rfl (fun K hK => ?_) AllReadyH.nil
            go_simp
            refine hK.out _ _ ?_ (fun hHeld => ?_)
            · (try dsimp only); (first | assumption | exact ⟨c2x, f3⟩ | exact HZ.1 | exact HZ.2.2 _ | (refine sees2f ?_ c2x c3 f3; (repeat (first | exact bnil _ | refine Below.drew ?_ | refine bnew ?_ _))))
            clear hK K
            try simp only [Act.put, List.setIfInBounds_toArray, List.set_cons_zero, List.set_cons_succ]
            refine wpAnyH_take (i := 8) (oi := ⟨some 106, _, _, _, _, _⟩) (v := ?_) rfl (by kernel_rfl) (by kernel_rfl) (by kernel_rfl) (fun _ _ _ h => h) (Or.inl ⟨by rfl, ?_⟩) (by assumption) ?_
            rotate_left
            · intro w hSw; (try dsimp only at hSw); go_simp <;> with_reducible rfl
            try simp only [Act.put, List.setIfInBounds_toArray, List.set_cons_zero, List.set_cons_succ]
            refine wpAnyH_ready (rs := [9]) (by kernel_rfl) (by simp) ?_
            refine AllReadyH.cons (o := ⟨some 107, _, _, _, _, _⟩) rfl (fun K hK => ?_) AllReadyH.nil
            go_simp
            refine hK.out _ _ ?_ (fun hHeld => ?_)
            · (try dsimp only); (first | assumption | exact ⟨c2x, f3⟩ | exact HZ.1 | exact HZ.2.2 _ | (refine sees2f ?_ c2x c3 f3; (repeat (first | exact bnil _ | refine Below.drew ?_ | refine bnew ?_ _))))
            clear hK K
            try simp only [Act.put, List.setIfInBounds_toArray, List.set_cons_zero, List.set_cons_succ]
            refine wpAnyH_ready (rs := [10]) (by kernel_rfl) (by simp) ?_
            refine AllReadyH.cons (o := ⟨some 108, _, _, _, _, _⟩) rfl (fun K hK => ?_) AllReadyH.nil
            (refine step_appC elmCN gS_one rfl (.tmp 103) (.tmp 107) rfl (.slice Aj L cj) (((eth N ofs 10 0 q 0) 2).zip (av 2)) rfl (HR.out.row _ (bnew (bnew (bnil _) _) _).drew) [((⟨2, [(kq : Int)]⟩ : VCall), (⟨some ⟨wr.heap.size, 0, none⟩, 1, 1⟩ : SV))] y0 HYE0 rfl (Sl.drew (Sl.fresh' _ #[_, _] 35 2 1 _ (by simp) rfl)) rfl (by rw [HYL0.out]; simp only [maxLen]; omega) (by rw [HYL0.out]; omega) (Nat.le_trans HR.out.size (bnew (bnew (bnil _) _) _).drew.size) ?_; intro E6 c6 w6 hc6 hc7 HN6 HG6 HO6; have HZ := HR.out.grow _ w6 (bnew (bnew (bnil _) _) _).drew HG6.out)
            refine hK.out _ _ ?_ (fun hHeld => ?_)
            · (try dsimp only); (first | assumption | exact ⟨c2x, f3⟩ | exact HZ.1 | exact HZ.2.2 _ | (refine sees2f ?_ c2x c3 f3; (repeat (first | exact bnil _ | refine Below.drew ?_ | refine bnew ?_ _))))
            clear hK K
            try simp only [Act.put, List.setIfInBounds_toArray, List.set_cons_zero, List.set_cons_succ]
            refine wpAnyH_take (i := 11) (oi := ⟨some 109, _, _, _, _, _⟩) (v := ?_) rfl (by kernel_rfl) (by kernel_rfl) (by kernel_rfl) (fun _ _ _ h => h) (Or.inl ⟨by rfl, ?_⟩) (by assumption) ?_
            rotate_left
            · intro w hSw; (try dsimp only at hSw); go_simp <;> with_reducible rfl
            try simp only [Act.put, List.setIfInBounds_toArray, List.set_cons_zero, List.set_cons_succ]
            refine wpAnyH_ready (rs := [12]) (by kernel_rfl) (by simp) ?_
            refine AllReadyH.cons (o := ⟨none, _, _, _, _, _⟩) rfl (fun K hK => ?_) AllReadyH.nil
            go_simp
            refine hK.out _ _ ?_ (fun hHeld => ?_)
            · (try dsimp only); (first | assumption | exact ⟨c2x, f3⟩ | exact HZ.1 | exact HZ.2.2 _ | (refine sees2f ?_ c2x c3 f3; (repeat (first | exact bnil _ | refine Below.drew ?_ | refine bnew ?_ _))))
            clear hK K
            try dsimp only [Act.put]
            refine wpAnyH_done (by kernel_rfl) ?_ _
            rotate_left
            refine AllReadyH.cons (o := ⟨some 105, _, _, _, _, _⟩) rfl (fun K hK => ?_) AllReadyH.nil
            go_simp
            refine hK.out _ _ ?_ (fun hHeld => ?_)
            · (try dsimp only); (first | assumption | exact ⟨c2x, f3⟩ | exact HZ.1 | exact HZ.2.2 _ | (refine sees2f ?_ c2x c3 f3; (repeat (first | exact bnil _ | refine Below.drew ?_ | refine bnew ?_ _))))
            clear hK K
            try simp only [Act.put, List.setIfInBounds_toArray, List.set_cons_zero, List.set_cons_succ]
            refine wpAnyH_take (i := 8) (oi := ⟨some 106, _, _, _, _, _⟩) (v := ?_) rfl (by kernel_rfl) (by kernel_rfl) (by kernel_rfl) (fun _ _ _ h => h) (Or.inl ⟨by rfl, ?_⟩) (by assumption) ?_
            rotate_left
            · intro w hSw; (try dsimp only at hSw); go_simp <;> with_reducible rfl
            try simp only [Act.put, List.setIfInBounds_toArray, List.set_cons_zero, List.set_cons_succ]
            refine wpAnyH_ready (rs := [5, 9]) (by kernel_rfl) (by simp) ?_
            refine AllReadyH.cons (o := ⟨some 103, _, _, _, _, _⟩) rfl (fun K hK => ?_) ?_
            go_simp
            refine hK.out _ _ ?_ (fun hHeld => ?_)
            · (try dsimp only); (first | assumption | exact ⟨c2x, f3⟩ | exact HZ.1 | exact HZ.2.2 _ | (refine sees2f ?_ c2x c3 f3; (repeat (first | exact bnil _ | refine Below.drew ?_ | refine bnew ?_ _))))
            clear hK K
            try simp only [Act.put, List.setIfInBounds_toArray, List.set_cons_zero, List.set_cons_succ]
            refine wpAnyH_ready (rs := [9]) (by kernel_rfl) (by simp) ?_
            refine AllReadyH.cons (o := ⟨some 107, _, _, _, _, _⟩) rfl (fun K hK => ?_) AllReadyH.nil
            go_simp
            refine hK.out _ _ ?_ (fun hHeld => ?_)
            · (try dsimp only); (first | assumption | exact ⟨c2x, f3⟩ | exact HZ.1 | exact HZ.2.2 _ | (refine sees2f ?_ c2x c3 f3; (repeat (first | exact bnil _ | refine Below.drew ?_ | refine bnew ?_ _))))
            clear hK K
            try simp only [Act.put, List.setIfInBounds_toArray, List.set_cons_zero, List.set_cons_succ]
            refine wpAnyH_ready (rs := [10]) (by kernel_rfl) (by simp) ?_
            refine AllReadyH.cons (o := ⟨some 108, _, _, _, _, _⟩) rfl (fun K hK => ?_) AllReadyH.nil
            (refine step_appC elmCN gS_one rfl (.tmp 103) (.tmp 107) rfl (.slice Aj L cj) (((eth N ofs 10 0 q 0) 2).zip (av 2)) rfl (HR.out.row _ (bnew (bnew (bnil _) _) _).drew) [((⟨2, [(kq : Int)]⟩ : VCall), (⟨some ⟨wr.heap.size, 0, none⟩, 1, 1⟩ : SV))] y0 HYE0 rfl (Sl.drew (Sl.fresh' _ #[_, _] 35 2 1 _ (by simp) rfl)) rfl (by rw [HYL0.out]; simp only [maxLen]; omega) (by rw [HYL0.out]; omega) (Nat.le_trans HR.out.size (bnew (bnew (bnil _) _) _).drew.size) ?_; intro E6 c6 w6 hc6 hc7 HN6 HG6 HO6; have HZ := HR.out.grow _ w6 (bnew (bnew (bnil _) _) _).drew HG6.out)
            refine hK.out _ _ ?_ (fun hHeld => ?_)
            · (try dsimp only); (first | assumption | exact ⟨c2x, f3⟩ | exact HZ.1 | exact HZ.2.2 _ | (refine sees2f ?_ c2x c3 f3; (repeat (first | exact bnil _ | refine Below.drew ?_ | refine bnew ?_ _))))
            clear hK K
            try simp only [Act.put, List.setIfInBounds_toArray, List.set_cons_zero, List.set_cons_succ]
            refine wpAnyH_take (i := 11) (oi := ⟨some 109, _, _, _, _, _⟩) (v := ?_) rfl (by kernel_rfl) (by kernel_rfl) (by kernel_rfl) (fun _ _ _ h => h) (Or.inl ⟨by rfl, ?_⟩) (by assumption) ?_
            rotate_left
            · intro w hSw; (try dsimp only at hSw); go_simp <;> with_reducible rfl
            try simp only [Act.put, List.setIfInBounds_toArray, List.set_cons_zero, List.set_cons_succ]
            refine wpAnyH_ready (rs := [12]) (by kernel_rfl) (by simp) ?_
            refine AllReadyH.cons (o := ⟨none, _, _, _, _, _⟩) rfl (fun K hK => ?_) AllReadyH.nil
            go_simp
            refine hK.out _ _ ?_ (fun hHeld => ?_)
            · (try dsimp only); (first | assumption | exact ⟨c2x, f3⟩ | exact HZ.1 | exact HZ.2.2 _ | (refine sees2f ?_ c2x c3 f3; (repeat (first | exact bnil _ | refine Below.drew ?_ | refine bnew ?_ _))))
            clear hK K
            try dsimp only [Act.put]
            refine wpAnyH_done (by kernel_rfl) ?_ _
            rotate_left
            refine AllReadyH.cons (o := ⟨some 107, _, _, _, _, _⟩) rfl (fun K hK => ?_) AllReadyH.nil
            go_simp
            refine hK.out _ _ ?_ (fun hHeld => ?_)
            · (try dsimp only); (first | assumption | exact ⟨c2x, f3⟩ | exact HZ.1 | exact HZ.2.2 _ | (refine sees2f ?_ c2x c3 f3; (repeat (first | exact bnil _ | refine Below.drew ?_ | refine bnew ?_ _))))
            clear hK K
            try simp only [Act.put, List.setIfInBounds_toArray, List.set_cons_zero, List.set_cons_succ]
            refine wpAnyH_ready (rs := [5]) (by kernel_rfl) (by simp) ?_
            refine AllReadyH.cons (o := ⟨some 103, _, _, _, _, _⟩) rfl (fun K hK => ?_) AllReadyH.nil
            go_simp
            refine hK.out _ _ ?_ (fun hHeld => ?_)
            · (try dsimp only); (first | assumption | exact ⟨c2x, f3⟩ | exact HZ.1 | exact HZ.2.2 _ | (refine sees2f ?_ c2x c3 f3; (repeat (first | exact bnil _ | refine Below.drew ?_ | refine bnew ?_ _))))
            clear hK K
            try simp only [Act.put, List.setIfInBounds_toArray, List.set_cons_zero, List.set_cons_succ]
            refine wpAnyH_ready (rs := [10]) (by kernel_rfl) (by simp) ?_
            refine AllReadyH.cons (o := ⟨some 108, _, _, _, _, _⟩) rfl (fun K hK => ?_) AllReadyH.nil
            (refine step_appC elmCN gS_one rfl (.tmp 103) (.tmp 107) rfl (.slice Aj L cj) (((eth N ofs 10 0 q 0) 2).zip (av 2)) rfl (HR.out.row _ (bnew (bnew (bnil _) _) _).drew) [((⟨2, [(kq : Int)]⟩ : VCall), (⟨some ⟨wr.heap.size, 0, none⟩, 1, 1⟩ : SV))] y0 HYE0 rfl (Sl.drew (Sl.fresh' _ #[_, _] 35 2 1 _ (by simp) rfl)) rfl (by rw [HYL0.out]; simp only [maxLen]; omega) (by rw [HYL0.out]; omega) (Nat.le_trans HR.out.size (bnew (bnew (bnil _) _) _).drew.size) ?_; intro E6 c6 w6 hc6 hc7 HN6 HG6 HO6; have HZ := HR.out.grow _ w6 (bnew (bnew (bnil _) _) _).drew HG6.out)
            refine hK.out _ _ ?_ (fun hHeld => ?_)
            · (try dsimp only); (first | assumption | exact ⟨c2x, f3⟩ | exact HZ.1 | exact HZ.2.2 _ | (refine sees2f ?_ c2x c3 f3; (repeat (first | exact bnil _ | refine Below.drew ?_ | refine bnew ?_ _))))
            clear hK K
            try simp only [Act.put, List.setIfInBounds_toArray, List.set_cons_zero, List.set_cons_succ]
            refine wpAnyH_take (i := 11) (oi := ⟨some 109, _, _, _, _, _⟩) (v := ?_) rfl (by kernel_rfl) (by kernel_rfl) (by kernel_rfl) (fun _ _ _ h => h) (Or.inl ⟨by rfl, ?_⟩) (by assumption) ?_
            rotate_left
            · intro w hSw; (try dsimp only at hSw); go_simp <;> with_reducible rfl
            try simp only [Act.put, List.setIfInBounds_toArray, List.set_cons_zero, List.set_cons_succ]
            refine wpAnyH_ready (rs := [12]) (by kernel_rfl) (by simp) ?_
            refine AllReadyH.cons (o := ⟨none, _, _, _, _, _⟩) rfl (fun K hK => ?_) AllReadyH.nil
            go_simp
            refine hK.out _ _ ?_ (fun hHeld => ?_)
            · (try dsimp only); (first | assumption | exact ⟨c2x, f3⟩ | exact HZ.1 | exact HZ.2.2 _ | (refine sees2f ?_ c2x c3 f3; (repeat (first | exact bnil _ | refine Below.drew ?_ | refine bnew ?_ _))))
            clear hK K
            try dsimp only [Act.put]
            refine wpAnyH_done (by kernel_rfl) ?_ _
            rotate_left
            all_goals
              have HF := hid (HX.out.app (j := 2) (by omega) [⟨2, [(kq : Int)]⟩] [⟨some ⟨wr.heap.size, 0, none⟩, 1, 1⟩] (bnew (bnew (bnil _) _) _).drew rfl (HOF0.out _) HYE0.out (by rw [HAJ.out]; exact HG6.out) (by rw [HAJ.out]; exact HO6.out) HN6.out)
              clear HZ HG6 HO6 HN6
              have HFQ := hid (by have h1 := HF.out; rw [HKQ.out, eth_q] at h1; exact h1)
              clear HF
              try (have hh := HKE.out.symm; clear HKQ; subst hh)
              go_wp2_with fail
              go_roundw
              case rel => exact ⟨q + 1, _, _, by omega, by go_num, HFQ⟩
              case measure => simp [intOf]; omega
          · exact absurd HR0.out (by omega)
        · obtain rfl : N = q := by omega
          have i2 : ¬ (N : Int) < (N : Int) := by omega
          go_wp2_with fail
          go_loopw [21] (fun v wx => ∃ (g : Nat) (tv : Nat → Value) (av : Nat → List SV), g ≤ 20 ∧ v = .int .i64 g ∧ Hid (MBun w wx w.heap.size nil3 w.heap.size X Cb T 4 4 (.slice AW (N + 5) cW) (List.replicate (N + 5) (0 : Int)) (fun i => [.slice A1 4 c1, .slice A2 1 c2, .slice A3 7 c3, .slice A4 25 c4].getD i undef) (fun i => [epinCode, eunpinCode, eretireCode, efreeCode N].getD i []) tv (eth N ofs 10 0 N g) av)) (fun v _ => 20 - (intOf v).toNat)
          case atStart => exact ⟨0, _, _, Nat.zero_le _, rfl, HX⟩
          case round =>
            clear HX
            clear tv av
            obtain ⟨g, tv, av, hg20, rfl, HX⟩ := hrel
            by_cases hlg : g < 20
            · have i3 : (g : Int) < 20 := by omega
              have HLN := hid (show (eth N ofs 10 0 N g 3).length ≤ 20 by unfold eth; simp; omega)
              have HOF0 := hid (show ∀ (LIT : Obj) (k' : Nat) (c : VCall) (a : SV), ([⟨3, []⟩] : List VCall)[k']? = some c → ([⟨none, 0, 0⟩] : List SV)[k']? = some a → ((wr.alloc LIT).drew).ownsRow w.heap.size 3 1 a.v c.args.length (c.args.flatMap gI) from by
                intro LIT k' c a hc ha
                have hge : w.heap.size ≤ wr.heap.size := HX.out.below.size
                match k', hc, ha with
                | 0, hc, ha => injection hc with hc; injection ha with ha; subst hc ha; exact own0 _ _ _ 1
                | k + 1, hc, ha => cases hc)
              obtain ⟨Aj, cj, hAj, HR0⟩ := HX.out.row (j := 3) (by omega)
              obtain ⟨L, hL⟩ : ∃ L, ((eth N ofs 10 0 N g) 3).length = L := ⟨_, rfl⟩
              rw [hL] at hAj HR0
              have hL18 : L ≤ 20 := by rw [← hL]; exact HLN.out
              obtain ⟨y0, hy0⟩ : ∃ y, ((eth N ofs 10 0 N g) 3).zip (av 3) ++ [((⟨3, []⟩ : VCall), (⟨none, 0, 0⟩ : SV))] = y := ⟨_, rfl⟩
              have HYE0 := hid hy0
              have HYL0 := hid (show y0.length = L + 1 by rw [← hy0, List.length_append, HR0.len]; rfl)
              clear hy0
              have HR := hid HR0
              have HAJ := hid hAj
              have c2x := HR.out.c2; have c3 := HR.out.c3; have f3 := HR.out.f3; have hcj := HR.out.hcj; have hcm := HR.out.hcm
              unfold maxLen at hcm
              clear HR0 hAj hL
              have ltT := World.block_lt_of_cell? wr _ c3
              have ltX := World.block_lt_of_cell? wr _ c2x
              have ltT1 : T < wr.heap.size + 1 := Nat.lt_succ_of_lt ltT
              have ltT2 : T < wr.heap.size + 1 + 1 := Nat.lt_succ_of_lt ltT1
              have hq3 : ∀ o1 o2 o3 : Obj, (((wr.alloc o1).alloc o2).alloc o3).cell? ⟨T, 3, none⟩ = some (.slice Aj L cj) := fun o1 o2 o3 => cell_below (bnew (bnew (bnew (bnil wr) o1) o2) o3) c3
              go_upto_region 24 with fail
              refine wp_region_held_drew (S := (fun w' => w'.cell? ⟨X, 2, none⟩ = some (.slice (some ⟨T, 0, none⟩) 4 4) ∧ w'.frozen? ⟨T, 3, none⟩ = false)) (by kernel_rfl) ?_ (fun hHeld => ?_)
              · (try dsimp only); (first | assumption | exact ⟨c2x, f3⟩ | exact HZ.1 | exact HZ.2.2 _ | (refine sees2f ?_ c2x c3 f3; (repeat (first | exact bnil _ | refine Below.drew ?_ | refine bnew ?_ _))))
              refine wpAnyH_take (i := 0) (oi := ⟨some 114, _, _, _, _, _⟩) (v := ?_) rfl (by kernel_rfl) (by kernel_rfl) (by kernel_rfl) (fun _ _ _ h => h) (Or.inl ⟨by rfl, ?_⟩) (by assumption) ?_
              rotate_left
              · intro w hSw; (try dsimp only at hSw); go_simp <;> with_reducible rfl
              try simp only [Act.put, List.setIfInBounds_toArray, List.set_cons_zero, List.set_cons_succ]
              refine wpAnyH_take (i := 1) (oi := ⟨some 115, _, _, _, _, _⟩) (v := ?_) rfl (by kernel_rfl) (by kernel_rfl) (by kernel_rfl) (fun _ _ _ h => h) (Or.inl ⟨by rfl, ?_⟩) (by assumption) ?_
              rotate_left
              · intro w hSw; (try dsimp only at hSw); go_simp <;> with_reducible rfl
              try simp only [Act.put, List.setIfInBounds_toArray, List.set_cons_zero, List.set_cons_succ]
              refine wpAnyH_take (i := 2) (oi := ⟨some 116, _, _, _, _, _⟩) (v := ?_) rfl (by kernel_rfl) (by kernel_rfl) (by kernel_rfl) (fun _ _ _ h => h) (Or.inl ⟨by rfl, ?_⟩) (by assumption) ?_
              rotate_left
              · intro w hSw; (try dsimp only at hSw); go_simp <;> with_reducible rfl
              try simp only [Act.put, List.setIfInBounds_toArray, List.set_cons_zero, List.set_cons_succ]
              refine wpAnyH_take (i := 3) (oi := ⟨some 117, _, _, _, _, _⟩) (v := ?_) rfl (by kernel_rfl) (by kernel_rfl) (by kernel_rfl) (fun _ _ _ h => h) (Or.inl ⟨by rfl, ?_⟩) (by assumption) ?_
              rotate_left
              · intro w hSw; (try dsimp only at hSw); go_simp <;> with_reducible rfl
              try simp only [Act.put, List.setIfInBounds_toArray, List.set_cons_zero, List.set_cons_succ]
              refine wpAnyH_take (i := 4) (oi := ⟨some 118, _, _, _, _, _⟩) (v := ?_) rfl (by kernel_rfl) (by kernel_rfl) (by kernel_rfl) (fun _ _ _ h => h) (Or.inl ⟨by rfl, ?_⟩) (by assumption) ?_
              rotate_left
              · intro w hSw; (try dsimp only at hSw); go_simp <;> with_reducible rfl
              try simp only [Act.put, List.setIfInBounds_toArray, List.set_cons_zero, List.set_cons_succ]
              refine wpAnyH_take (i := 6) (oi := ⟨some 120, _, _, _, _, _⟩) (v := ?_) rfl (by kernel_rfl) (by kernel_rfl) (by kernel_rfl) (fun _ _ _ h => h) (Or.inl ⟨by rfl, ?_⟩) (by assumption) ?_
              rotate_left
              · intro w hSw; (try dsimp only at hSw); go_simp <;> with_reducible rfl
              try simp only [Act.put, List.setIfInBounds_toArray, List.set_cons_zero, List.set_cons_succ]
              refine wpAnyH_ready (rs := [5, 7]) (by kernel_rfl) (by simp) ?_
              refine AllReadyH.cons (o := ⟨some 119, _, _, _, _, _⟩) rfl (fun K hK => ?_) ?_
              go_simp
              refine hK.out _ _ ?_ (fun hHeld => ?_)
              · (try dsimp only); (first | assumption | exact ⟨c2x, f3⟩ | exact HZ.1 | exact HZ.2.2 _ | (refine sees2f ?_ c2x c3 f3; (repeat (first | exact bnil _ | refine Below.drew ?_ | refine bnew ?_ _))))
              clear hK K
              try simp only [Act.put, List.setIfInBounds_toArray, List.set_cons_zero, List.set_cons_succ]
              refine wpAnyH_ready (rs := [7]) (by kernel_rfl) (by simp) ?_
              refine AllReadyH.cons (o := ⟨some 121, _, _, _, _, _⟩) rfl (fun K hK => ?_) AllReadyH.nil
              go_simp
              refine hK.out _ _ ?_ (fun hHeld => ?_)
              · (try dsimp only); (first | assumption | exact ⟨c2x, f3⟩ | exact HZ.1 | exact HZ.2.2 _ | (refine sees2f ?_ c2x c3 f3; (repeat (first | exact bnil _ | refine Below.drew ?_ | refine bnew ?_ _))))
              clear hK K
              try simp only [Act.put, List.setIfInBounds_toArray, List.set_cons_zero, List.set_cons_succ]
              refine wpAnyH_ready (rs := [8]) (by kernel_rfl) (by simp) ?_
              refine AllReadyH.cons (o := ⟨some 122, _, _, _, _, _⟩) rfl (fun K hK => ?_) AllReadyH.nil
              (refine step_appC elmCN gS_one rfl (.tmp 119) (.tmp 121) rfl (.slice Aj L cj) (((eth N ofs 10 0 N g) 3).zip (av 3)) rfl (HR.out.row _ (bnew (bnil _) _).drew) [((⟨3, []⟩ : VCall), (⟨none, 0, 0⟩ : SV))] y0 HYE0 rfl (Sl.drew (Sl.fresh' _ #[_, _] 35 2 1 _ (by simp) rfl)) rfl (by rw [HYL0.out]; simp only [maxLen]; omega) (by rw [HYL0.out]; omega) (Nat.le_trans HR.out.size (bnew (bnil _) _).drew.size) ?_; intro E6 c6 w6 hc6 hc7 HN6 HG6 HO6; have HZ := HR.out.grow _ w6 (bnew (bnil _) _).drew HG6.out)
              refine hK.out _ _ ?_ (fun hHeld => ?_)
              · (try dsimp only); (first | assumption | exact ⟨c2x, f3⟩ | exact HZ.1 | exact HZ.2.2 _ | (refine sees2f ?_ c2x c3 f3; (repeat (first | exact bnil _ | refine Below.drew ?_ | refine bnew ?_ _))))
              clear hK K
              try simp only [Act.put, List.setIfInBounds_toArray, List.set_cons_zero, List.set_cons_succ]
              refine wpAnyH_take (i := 9) (oi := ⟨some 123, _, _, _, _, _⟩) (v := ?_) rfl (by kernel_rfl) (by kernel_rfl) (by kernel_rfl) (fun _ _ _ h => h) (Or.inl ⟨by rfl, ?_⟩) (by assumption) ?_
              rotate_left
              · intro w hSw; (try dsimp only at hSw); go_simp <;> with_reducible rfl
              try simp only [Act.put, List.setIfInBounds_toArray, List.set_cons_zero, List.set_cons_succ]
              refine wpAnyH_ready (rs := [10]) (by kernel_rfl) (by simp) ?_
              refine AllReadyH.cons (o := ⟨none, _, _, _, _, _⟩) rfl (fun K hK => ?_) AllReadyH.nil
              go_simp
              refine hK.out _ _ ?_ (fun hHeld => ?_)
              · (try dsimp only); (first | assumption | exact ⟨c2x, f3⟩ | exact HZ.1 | exact HZ.2.2 _ | (refine sees2f ?_ c2x c3 f3; (repeat (first | exact bnil _ | refine Below.drew ?_ | refine bnew ?_ _))))
              clear hK K
              try dsimp only [Act.put]
              refine wpAnyH_done (by kernel_rfl) ?_ _
              rotate_left
              refine AllReadyH.cons (o := ⟨some 121, _, _, _, _, _⟩) rfl (fun K hK => ?_) AllReadyH.nil
              go_simp
              refine hK.out _ _ ?_ (fun hHeld => ?_)
              · (try dsimp only); (first | assumption | exact ⟨c2x, f3⟩ | exact HZ.1 | exact HZ.2.2 _ | (refine sees2f ?_ c2x c3 f3; (repeat (first | exact bnil _ | refine Below.drew ?_ | refine bnew ?_ _))))
              clear hK K
              try simp only [Act.put, List.setIfInBounds_toArray, List.set_cons_zero, List.set_cons_succ]
              refine wpAnyH_ready (rs := [5]) (by kernel_rfl) (by simp) ?_
              refine AllReadyH.cons (o := ⟨some 119, _, _, _, _, _⟩) rfl (fun K hK => ?_) AllReadyH.nil
              go_simp
              refine hK.out _ _ ?_ (fun hHeld => ?_)
              · (try dsimp only); (first | assumption | exact ⟨c2x, f3⟩ | exact HZ.1 | exact HZ.2.2 _ | (refine sees2f ?_ c2x c3 f3; (repeat (first | exact bnil _ | refine Below.drew ?_ | refine bnew ?_ _))))
              clear hK K
              try simp only [Act.put, List.setIfInBounds_toArray, List.set_cons_zero, List.set_cons_succ]
              refine wpAnyH_ready (rs := [8]) (by kernel_rfl) (by simp) ?_
              refine AllReadyH.cons (o := ⟨some 122, _, _, _, _, _⟩) rfl (fun K hK => ?_) AllReadyH.nil
              (refine step_appC elmCN gS_one rfl (.tmp 119) (.tmp 121) rfl (.slice Aj L cj) (((eth N ofs 10 0 N g) 3).zip (av 3)) rfl (HR.out.row _ (bnew (bnil _) _).drew) [((⟨3, []⟩ : VCall), (⟨none, 0, 0⟩ : SV))] y0 HYE0 rfl (Sl.drew (Sl.fresh' _ #[_, _] 35 2 1 _ (by simp) rfl)) rfl (by rw [HYL0.out]; simp only [maxLen]; omega) (by rw [HYL0.out]; omega) (Nat.le_trans HR.out.size (bnew (bnil _) _).drew.size) ?_; intro E6 c6 w6 hc6 hc7 HN6 HG6 HO6; have HZ := HR.out.grow _ w6 (bnew (bnil _) _).drew HG6.out)
              refine hK.out _ _ ?_ (fun hHeld => ?_)
              · (try dsimp only); (first | assumption | exact ⟨c2x, f3⟩ | exact HZ.1 | exact HZ.2.2 _ | (refine sees2f ?_ c2x c3 f3; (repeat (first | exact bnil _ | refine Below.drew ?_ | refine bnew ?_ _))))
              clear hK K
              try simp only [Act.put, List.setIfInBounds_toArray, List.set_cons_zero, List.set_cons_succ]
              refine wpAnyH_take (i := 9) (oi := ⟨some 123, _, _, _, _, _⟩) (v := ?_) rfl (by kernel_rfl) (by kernel_rfl) (by kernel_rfl) (fun _ _ _ h => h) (Or.inl ⟨by rfl, ?_⟩) (by assumption) ?_
              rotate_left
              · intro w hSw; (try dsimp only at hSw); go_simp <;> with_reducible rfl
              try simp only [Act.put, List.setIfInBounds_toArray, List.set_cons_zero, List.set_cons_succ]
              refine wpAnyH_ready (rs := [10]) (by kernel_rfl) (by simp) ?_
              refine AllReadyH.cons (o := ⟨none, _, _, _, _, _⟩) rfl (fun K hK => ?_) AllReadyH.nil
              go_simp
              refine hK.out _ _ ?_ (fun hHeld => ?_)
              · (try dsimp only); (first | assumption | exact ⟨c2x, f3⟩ | exact HZ.1 | exact HZ.2.2 _ | (refine sees2f ?_ c2x c3 f3; (repeat (first | exact bnil _ | refine Below.drew ?_ | refine bnew ?_ _))))
              clear hK K
              try dsimp only [Act.put]
              refine wpAnyH_done (by kernel_rfl) ?_ _
              rotate_left
              all_goals
                have HF := hid (HX.out.app (j := 3) (by omega) [⟨3, []⟩] [⟨none, 0, 0⟩] (bnew (bnil _) _).drew rfl (HOF0.out _) HYE0.out (by rw [HAJ.out]; exact HG6.out) (by rw [HAJ.out]; exact HO6.out) HN6.out)
                clear HZ HG6 HO6 HN6
                go_wp2_with fail
                go_roundw
                case rel => exact ⟨g + 1, _, _, by omega, by go_num, hid (by have h1 := HF.out; rw [eth_g] at h1; exact h1)⟩
                case measure => simp [intOf]; omega
            · obtain rfl : g = 20 := by omega
              have i3 : ¬ ((20 : Nat) : Int) < 20 := by omega
              have HMA := hid (emach_at HX.out.mn h8)
              have y0 : wr.cell? ⟨X, 0, none⟩ = some (.slice AW (N + 5) cW) := HX.out.hx.cell 0
              have y1 : wr.cell? ⟨X, 1, none⟩ = some (.slice (some ⟨Cb, 0, none⟩) 4 4) := HX.out.hx.cell 1
              have y2 : wr.cell? ⟨X, 2, none⟩ = some (.slice (some ⟨T, 0, none⟩) 4 4) := HX.out.hx.cell 2
              have z0 := HX.out.hr.frozen 0
              have z1 := HX.out.hr.frozen 1
              have z2 := HX.out.hr.frozen 2
              have z3 : wr.cell? ⟨w.heap.size, 0, none⟩ = some (.slice none 0 0) := HX.out.hr.cell 0
              have z4 : wr.cell? ⟨w.heap.size, 1, none⟩ = some (.slice none 0 0) := HX.out.hr.cell 1
              have z5 : wr.cell? ⟨w.heap.size, 2, none⟩ = some (.slice none 0 0) := HX.out.hr.cell 2
              have HTR := hid (HT.out.below HX.out.below)
              go_upto_region 25 with fail
              refine wp_region_held_drew (S := (fun w' => w'.cell? ⟨X, 0, none⟩ = some (.slice AW (N + 5) cW) ∧ w'.cell? ⟨X, 1, none⟩ = some (.slice (some ⟨Cb, 0, none⟩) 4 4) ∧ w'.cell? ⟨X, 2, none⟩ = some (.slice (some ⟨T, 0, none⟩) 4 4) ∧ w'.frozen? ⟨w.heap.size, 0, none⟩ = false ∧ w'.frozen? ⟨w.heap.size, 1, none⟩ = false ∧ w'.frozen? ⟨w.heap.size, 2, none⟩ = false)) (by kernel_rfl) ?_ (fun hHeld => ?_)
              · (try dsimp only); (first | assumption | exact ⟨y0, y1, y2, z0, z1, z2⟩ | exact ⟨y0', y1', y2', z0', z1', z2'⟩ | exact keep16s hXR y0' y1' y2' z0' z1' z2' _ _ _)
              refine wpAnyH_take (i := 0) (oi := ⟨some 124, _, _, _, _, _⟩) (v := ?_) rfl (by kernel_rfl) (by kernel_rfl) (by kernel_rfl) (fun _ _ _ h => h) (Or.inl ⟨by rfl, ?_⟩) (by assumption) ?_
              rotate_left
              · intro w hSw; (try dsimp only at hSw); go_simp <;> with_reducible rfl
              try simp only [Act.put, List.setIfInBounds_toArray, List.set_cons_zero, List.set_cons_succ]
              refine wpAnyH_take (i := 1) (oi := ⟨some 125, _, _, _, _, _⟩) (v := ?_) rfl (by kernel_rfl) (by kernel_rfl) (by kernel_rfl) (fun _ _ _ h => h) (Or.inl ⟨by rfl, ?_⟩) (by assumption) ?_
              rotate_left
              · intro w hSw; (try dsimp only at hSw); go_simp <;> with_reducible rfl
              try simp only [Act.put, List.setIfInBounds_toArray, List.set_cons_zero, List.set_cons_succ]
              refine wpAnyH_take (i := 2) (oi := ⟨some 126, _, _, _, _, _⟩) (v := ?_) rfl (by kernel_rfl) (by kernel_rfl) (by kernel_rfl) (fun _ _ _ h => h) (Or.inl ⟨by rfl, ?_⟩) (by assumption) ?_
              rotate_left
              · intro w hSw; (try dsimp only at hSw); go_simp <;> with_reducible rfl
              try simp only [Act.put, List.setIfInBounds_toArray, List.set_cons_zero, List.set_cons_succ]
              refine wpAnyH_take (i := 3) (oi := ⟨some 127, _, _, _, _, _⟩) (v := ?_) rfl (by kernel_rfl) (by kernel_rfl) (by kernel_rfl) (fun _ _ _ h => h) (Or.inl ⟨by rfl, ?_⟩) (by assumption) ?_
              rotate_left
              · intro w hSw; (try dsimp only at hSw); go_simp <;> with_reducible rfl
              try simp only [Act.put, List.setIfInBounds_toArray, List.set_cons_zero, List.set_cons_succ]
              refine wpAnyH_take (i := 4) (oi := ⟨some 128, _, _, _, _, _⟩) (v := ?_) rfl (by kernel_rfl) (by kernel_rfl) (by kernel_rfl) (fun _ _ _ h => h) (Or.inl ⟨by rfl, ?_⟩) (by assumption) ?_
              rotate_left
              · intro w hSw; (try dsimp only at hSw); go_simp <;> with_reducible rfl
              try simp only [Act.put, List.setIfInBounds_toArray, List.set_cons_zero, List.set_cons_succ]
              refine wpAnyH_take (i := 5) (oi := ⟨some 129, _, _, _, _, _⟩) (v := ?_) rfl (by kernel_rfl) (by kernel_rfl) (by kernel_rfl) (fun _ _ _ h => h) (Or.inl ⟨by rfl, ?_⟩) (by assumption) ?_
              rotate_left
              · intro w hSw; (try dsimp only at hSw); go_simp <;> with_reducible rfl
              try simp only [Act.put, List.setIfInBounds_toArray, List.set_cons_zero, List.set_cons_succ]
              refine wpAnyH_take (i := 6) (oi := ⟨some 130, _, _, _, _, _⟩) (v := ?_) rfl (by kernel_rfl) (by kernel_rfl) (by kernel_rfl) (fun _ _ _ h => h) (Or.inl ⟨by rfl, ?_⟩) (by assumption) ?_
              rotate_left
              · intro w hSw; (try dsimp only at hSw); go_simp <;> with_reducible rfl
              try simp only [Act.put, List.setIfInBounds_toArray, List.set_cons_zero, List.set_cons_succ]
              refine wpAnyH_take (i := 7) (oi := ⟨some 131, _, _, _, _, _⟩) (v := ?_) rfl (by kernel_rfl) (by kernel_rfl) (by kernel_rfl) (fun _ _ _ h => h) (Or.inl ⟨by rfl, ?_⟩) (by assumption) ?_
              rotate_left
              · intro w hSw; (try dsimp only at hSw); go_simp <;> with_reducible rfl
              try simp only [Act.put, List.setIfInBounds_toArray, List.set_cons_zero, List.set_cons_succ]
              refine wpAnyH_take (i := 8) (oi := ⟨some 132, _, _, _, _, _⟩) (v := ?_) rfl (by kernel_rfl) (by kernel_rfl) (by kernel_rfl) (fun _ _ _ h => h) (Or.inl ⟨by rfl, ?_⟩) (by assumption) ?_
              rotate_left
              · intro w hSw; (try dsimp only at hSw); go_simp <;> with_reducible rfl
              try simp only [Act.put, List.setIfInBounds_toArray, List.set_cons_zero, List.set_cons_succ]
              refine wpAnyH_take (i := 9) (oi := ⟨some 133, _, _, _, _, _⟩) (v := ?_) rfl (by kernel_rfl) (by kernel_rfl) (by kernel_rfl) (fun _ _ _ h => h) (Or.inl ⟨by rfl, ?_⟩) (by assumption) ?_
              rotate_left
              · intro w hSw; (try dsimp only at hSw); go_simp <;> with_reducible rfl
              try simp only [Act.put, List.setIfInBounds_toArray, List.set_cons_zero, List.set_cons_succ]
              refine wpAnyH_take (i := 10) (oi := ⟨some 134, _, _, _, _, _⟩) (v := ?_) rfl (by kernel_rfl) (by kernel_rfl) (by kernel_rfl) (fun _ _ _ h => h) (Or.inl ⟨by rfl, ?_⟩) (by assumption) ?_
              rotate_left
              · intro w hSw; (try dsimp only at hSw); go_simp <;> with_reducible rfl
              try simp only [Act.put, List.setIfInBounds_toArray, List.set_cons_zero, List.set_cons_succ]
              refine wpAnyH_take (i := 11) (oi := ⟨some 135, _, _, _, _, _⟩) (v := ?_) rfl (by kernel_rfl) (by kernel_rfl) (by kernel_rfl) (fun _ _ _ h => h) (Or.inl ⟨by rfl, ?_⟩) (by assumption) ?_
              rotate_left
              · intro w hSw; (try dsimp only at hSw); go_simp <;> with_reducible rfl
              try simp only [Act.put, List.setIfInBounds_toArray, List.set_cons_zero, List.set_cons_succ]
              refine wpAnyH_take (i := 12) (oi := ⟨some 136, _, _, _, _, _⟩) (v := ?_) rfl (by kernel_rfl) (by kernel_rfl) (by kernel_rfl) (fun _ _ _ h => h) (Or.inl ⟨by rfl, ?_⟩) (by assumption) ?_
              rotate_left
              · intro w hSw; (try dsimp only at hSw); go_simp <;> with_reducible rfl
              try simp only [Act.put, List.setIfInBounds_toArray, List.set_cons_zero, List.set_cons_succ]
              refine wpAnyH_take (i := 13) (oi := ⟨some 137, _, _, _, _, _⟩) (v := ?_) rfl (by kernel_rfl) (by kernel_rfl) (by kernel_rfl) (fun _ _ _ h => h) (Or.inl ⟨by rfl, ?_⟩) (by assumption) ?_
              rotate_left
              · intro w hSw; (try dsimp only at hSw); go_simp <;> with_reducible rfl
              try simp only [Act.put, List.setIfInBounds_toArray, List.set_cons_zero, List.set_cons_succ]
              refine wpAnyH_take (i := 14) (oi := ⟨some 138, _, _, _, _, _⟩) (v := ?_) rfl (by kernel_rfl) (by kernel_rfl) (by kernel_rfl) (fun _ _ _ h => h) (Or.inl ⟨by rfl, ?_⟩) (by assumption) ?_
              rotate_left
              · intro w hSw; (try dsimp only at hSw); go_simp <;> with_reducible rfl
              try simp only [Act.put, List.setIfInBounds_toArray, List.set_cons_zero, List.set_cons_succ]
              refine wpAnyH_take (i := 15) (oi := ⟨some 139, _, _, _, _, _⟩) (v := ?_) rfl (by kernel_rfl) (by kernel_rfl) (by kernel_rfl) (fun _ _ _ h => h) (Or.inl ⟨by rfl, ?_⟩) (by assumption) ?_
              rotate_left
              · intro w hSw; (try dsimp only at hSw); go_simp <;> with_reducible rfl
              try simp only [Act.put, List.setIfInBounds_toArray, List.set_cons_zero, List.set_cons_succ]
              refine wpAnyH_take (i := 16) (oi := ⟨some 140, _, _, _, _, _⟩) (v := ?_) rfl (by kernel_rfl) (by kernel_rfl) (by kernel_rfl) (fun _ _ _ h => h) (Or.inl ⟨by rfl, ?_⟩) (by assumption) ?_
              rotate_left
              · intro w hSw; (try dsimp only at hSw); go_simp <;> with_reducible rfl
              try simp only [Act.put, List.setIfInBounds_toArray, List.set_cons_zero, List.set_cons_succ]
              refine wpAnyH_take (i := 17) (oi := ⟨some 141, _, _, _, _, _⟩) (v := ?_) rfl (by kernel_rfl) (by kernel_rfl) (by kernel_rfl) (fun _ _ _ h => h) (Or.inl ⟨by rfl, ?_⟩) (by assumption) ?_
              rotate_left
              · intro w hSw; (try dsimp only at hSw); go_simp <;> with_reducible rfl
              try simp only [Act.put, List.setIfInBounds_toArray, List.set_cons_zero, List.set_cons_succ]
              refine wpAnyH_take (i := 18) (oi := ⟨some 142, _, _, _, _, _⟩) (v := ?_) rfl (by kernel_rfl) (by kernel_rfl) (by kernel_rfl) (fun _ _ _ h => h) (Or.inl ⟨by rfl, ?_⟩) (by assumption) ?_
              rotate_left
              · intro w hSw; (try dsimp only at hSw); go_simp <;> with_reducible rfl
              try simp only [Act.put, List.setIfInBounds_toArray, List.set_cons_zero, List.set_cons_succ]
              refine wpAnyH_take (i := 19) (oi := ⟨some 143, _, _, _, _, _⟩) (v := ?_) rfl (by kernel_rfl) (by kernel_rfl) (by kernel_rfl) (fun _ _ _ h => h) (Or.inl ⟨by rfl, ?_⟩) (by assumption) ?_
              rotate_left
              · intro w hSw; (try dsimp only at hSw); go_simp <;> with_reducible rfl
              try simp only [Act.put, List.setIfInBounds_toArray, List.set_cons_zero, List.set_cons_succ]
              refine wpAnyH_take (i := 20) (oi := ⟨some 144, _, _, _, _, _⟩) (v := ?_) rfl (by kernel_rfl) (by kernel_rfl) (by kernel_rfl) (fun _ _ _ h => h) (Or.inl ⟨by rfl, ?_⟩) (by assumption) ?_
              rotate_left
              · intro w hSw; (try dsimp only at hSw); go_simp <;> with_reducible rfl
              try simp only [Act.put, List.setIfInBounds_toArray, List.set_cons_zero, List.set_cons_succ]
              refine wpAnyH_take (i := 21) (oi := ⟨some 145, _, _, _, _, _⟩) (v := ?_) rfl (by kernel_rfl) (by kernel_rfl) (by kernel_rfl) (fun _ _ _ h => h) (Or.inl ⟨by rfl, ?_⟩) (by assumption) ?_
              rotate_left
              · intro w hSw; (try dsimp only at hSw); go_simp <;> with_reducible rfl
              try simp only [Act.put, List.setIfInBounds_toArray, List.set_cons_zero, List.set_cons_succ]
              refine wpAnyH_take (i := 22) (oi := ⟨some 146, _, _, _, _, _⟩) (v := ?_) rfl (by kernel_rfl) (by kernel_rfl) (by kernel_rfl) (fun _ _ _ h => h) (Or.inl ⟨by rfl, ?_⟩) (by assumption) ?_
              rotate_left
              · intro w hSw; (try dsimp only at hSw); go_simp <;> with_reducible rfl
              try simp only [Act.put, List.setIfInBounds_toArray, List.set_cons_zero, List.set_cons_succ]
              refine wpAnyH_take (i := 23) (oi := ⟨some 147, _, _, _, _, _⟩) (v := ?_) rfl (by kernel_rfl) (by kernel_rfl) (by kernel_rfl) (fun _ _ _ h => h) (Or.inl ⟨by rfl, ?_⟩) (by assumption) ?_
              rotate_left
              · intro w hSw; (try dsimp only at hSw); go_simp <;> with_reducible rfl
              try simp only [Act.put, List.setIfInBounds_toArray, List.set_cons_zero, List.set_cons_succ]
              refine wpAnyH_take (i := 24) (oi := ⟨some 148, _, _, _, _, _⟩) (v := ?_) rfl (by kernel_rfl) (by kernel_rfl) (by kernel_rfl) (fun _ _ _ h => h) (Or.inl ⟨by rfl, ?_⟩) (by assumption) ?_
              rotate_left
              · intro w hSw; (try dsimp only at hSw); go_simp <;> with_reducible rfl
              try simp only [Act.put, List.setIfInBounds_toArray, List.set_cons_zero, List.set_cons_succ]
              refine wpAnyH_take (i := 25) (oi := ⟨some 149, _, _, _, _, _⟩) (v := ?_) rfl (by kernel_rfl) (by kernel_rfl) (by kernel_rfl) (fun _ _ _ h => h) (Or.inl ⟨by rfl, ?_⟩) (by assumption) ?_
              rotate_left
              · intro w hSw; (try dsimp only at hSw); go_simp <;> with_reducible rfl
              try simp only [Act.put, List.setIfInBounds_toArray, List.set_cons_zero, List.set_cons_succ]
              refine wpAnyH_take (i := 26) (oi := ⟨some 150, _, _, _, _, _⟩) (v := ?_) rfl (by kernel_rfl) (by kernel_rfl) (by kernel_rfl) (fun _ _ _ h => h) (Or.inl ⟨by rfl, ?_⟩) (by assumption) ?_
              rotate_left
              · intro w hSw; (try dsimp only at hSw); go_simp <;> with_reducible rfl
              try simp only [Act.put, List.setIfInBounds_toArray, List.set_cons_zero, List.set_cons_succ]
              refine wpAnyH_take (i := 27) (oi := ⟨some 151, _, _, _, _, _⟩) (v := ?_) rfl (by kernel_rfl) (by kernel_rfl) (by kernel_rfl) (fun _ _ _ h => h) (Or.inl ⟨by rfl, ?_⟩) (by assumption) ?_
              rotate_left
              · intro w hSw; (try dsimp only at hSw); go_simp <;> with_reducible rfl
              try simp only [Act.put, List.setIfInBounds_toArray, List.set_cons_zero, List.set_cons_succ]
              refine wpAnyH_take (i := 28) (oi := ⟨some 152, _, _, _, _, _⟩) (v := ?_) rfl (by kernel_rfl) (by kernel_rfl) (by kernel_rfl) (fun _ _ _ h => h) (Or.inl ⟨by rfl, ?_⟩) (by assumption) ?_
              rotate_left
              · intro w hSw; (try dsimp only at hSw); go_simp <;> with_reducible rfl
              try simp only [Act.put, List.setIfInBounds_toArray, List.set_cons_zero, List.set_cons_succ]
              refine wpAnyH_take (i := 29) (oi := ⟨some 153, _, _, _, _, _⟩) (v := ?_) rfl (by kernel_rfl) (by kernel_rfl) (by kernel_rfl) (fun _ _ _ h => h) (Or.inl ⟨by rfl, ?_⟩) (by assumption) ?_
              rotate_left
              · intro w hSw; (try dsimp only at hSw); go_simp <;> with_reducible rfl
              try simp only [Act.put, List.setIfInBounds_toArray, List.set_cons_zero, List.set_cons_succ]
              refine wpAnyH_take (i := 30) (oi := ⟨some 154, _, _, _, _, _⟩) (v := ?_) rfl (by kernel_rfl) (by kernel_rfl) (by kernel_rfl) (fun _ _ _ h => h) (Or.inl ⟨by rfl, ?_⟩) (by assumption) ?_
              rotate_left
              · intro w hSw; (try dsimp only at hSw); go_simp <;> with_reducible rfl
              try simp only [Act.put, List.setIfInBounds_toArray, List.set_cons_zero, List.set_cons_succ]
              refine wpAnyH_take (i := 31) (oi := ⟨some 155, _, _, _, _, _⟩) (v := ?_) rfl (by kernel_rfl) (by kernel_rfl) (by kernel_rfl) (fun _ _ _ h => h) (Or.inl ⟨by rfl, ?_⟩) (by assumption) ?_
              rotate_left
              · intro w hSw; (try dsimp only at hSw); go_simp <;> with_reducible rfl
              try simp only [Act.put, List.setIfInBounds_toArray, List.set_cons_zero, List.set_cons_succ]
              refine wpAnyH_take (i := 32) (oi := ⟨some 156, _, _, _, _, _⟩) (v := ?_) rfl (by kernel_rfl) (by kernel_rfl) (by kernel_rfl) (fun _ _ _ h => h) (Or.inl ⟨by rfl, ?_⟩) (by assumption) ?_
              rotate_left
              · intro w hSw; (try dsimp only at hSw); go_simp <;> with_reducible rfl
              try simp only [Act.put, List.setIfInBounds_toArray, List.set_cons_zero, List.set_cons_succ]
              refine wpAnyH_take (i := 33) (oi := ⟨some 157, _, _, _, _, _⟩) (v := ?_) rfl (by kernel_rfl) (by kernel_rfl) (by kernel_rfl) (fun _ _ _ h => h) (Or.inl ⟨by rfl, ?_⟩) (by assumption) ?_
              rotate_left
              · intro w hSw; (try dsimp only at hSw); go_simp <;> with_reducible rfl
              try simp only [Act.put, List.setIfInBounds_toArray, List.set_cons_zero, List.set_cons_succ]
              refine wpAnyH_take (i := 34) (oi := ⟨some 158, _, _, _, _, _⟩) (v := ?_) rfl (by kernel_rfl) (by kernel_rfl) (by kernel_rfl) (fun _ _ _ h => h) (Or.inl ⟨by rfl, ?_⟩) (by assumption) ?_
              rotate_left
              · intro w hSw; (try dsimp only at hSw); go_simp <;> with_reducible rfl
              try simp only [Act.put, List.setIfInBounds_toArray, List.set_cons_zero, List.set_cons_succ]
              refine wpAnyH_take (i := 35) (oi := ⟨some 159, _, _, _, _, _⟩) (v := ?_) rfl (by kernel_rfl) (by kernel_rfl) (by kernel_rfl) (fun _ _ _ h => h) (Or.inl ⟨by rfl, ?_⟩) (by assumption) ?_
              rotate_left
              · intro w hSw; (try dsimp only at hSw); go_simp <;> with_reducible rfl
              try simp only [Act.put, List.setIfInBounds_toArray, List.set_cons_zero, List.set_cons_succ]
              refine wpAnyH_take (i := 36) (oi := ⟨some 160, _, _, _, _, _⟩) (v := ?_) rfl (by kernel_rfl) (by kernel_rfl) (by kernel_rfl) (fun _ _ _ h => h) (Or.inl ⟨by rfl, ?_⟩) (by assumption) ?_
              rotate_left
              · intro w hSw; (try dsimp only at hSw); go_simp <;> with_reducible rfl
              try simp only [Act.put, List.setIfInBounds_toArray, List.set_cons_zero, List.set_cons_succ]
              refine wpAnyH_take (i := 37) (oi := ⟨some 161, _, _, _, _, _⟩) (v := ?_) rfl (by kernel_rfl) (by kernel_rfl) (by kernel_rfl) (fun _ _ _ h => h) (Or.inl ⟨by rfl, ?_⟩) (by assumption) ?_
              rotate_left
              · intro w hSw; (try dsimp only at hSw); go_simp <;> with_reducible rfl
              try simp only [Act.put, List.setIfInBounds_toArray, List.set_cons_zero, List.set_cons_succ]
              refine wpAnyH_take (i := 38) (oi := ⟨some 162, _, _, _, _, _⟩) (v := ?_) rfl (by kernel_rfl) (by kernel_rfl) (by kernel_rfl) (fun _ _ _ h => h) (Or.inl ⟨by rfl, ?_⟩) (by assumption) ?_
              rotate_left
              · intro w hSw; (try dsimp only at hSw); go_simp <;> with_reducible rfl
              try simp only [Act.put, List.setIfInBounds_toArray, List.set_cons_zero, List.set_cons_succ]
              refine wpAnyH_take (i := 39) (oi := ⟨some 163, _, _, _, _, _⟩) (v := ?_) rfl (by kernel_rfl) (by kernel_rfl) (by kernel_rfl) (fun _ _ _ h => h) (Or.inl ⟨by rfl, ?_⟩) (by assumption) ?_
              rotate_left
              · intro w hSw; (try dsimp only at hSw); go_simp <;> with_reducible rfl
              try simp only [Act.put, List.setIfInBounds_toArray, List.set_cons_zero, List.set_cons_succ]
              refine wpAnyH_take (i := 40) (oi := ⟨some 164, _, _, _, _, _⟩) (v := ?_) rfl (by kernel_rfl) (by kernel_rfl) (by kernel_rfl) (fun _ _ _ h => h) (Or.inl ⟨by rfl, ?_⟩) (by assumption) ?_
              rotate_left
              · intro w hSw; (try dsimp only at hSw); go_simp <;> with_reducible rfl
              try simp only [Act.put, List.setIfInBounds_toArray, List.set_cons_zero, List.set_cons_succ]
              refine wpAnyH_ready (rs := [41]) (by kernel_rfl) (by simp) ?_
              refine AllReadyH.cons (o := ⟨some 165, _, _, _, _, _⟩) rfl (fun K hK => ?_) AllReadyH.nil
              go_simp
              refine (run_may AW (some ⟨Cb, 0, none⟩) (some ⟨T, 0, none⟩) (N + 5) cW 4 4 4 4 _ _ (by omega) (by decide) (by decide) (HTR.out.below (bnil _).drew) (HMA.out.below (bnil _).drew)).mono ?_; rintro e w4 ⟨rfl, b4⟩; have b4 := bgo (bnil wr).drew b4; obtain ⟨y0', y1', y2', z0', z1', z2', z3', z4', z5'⟩ := keep16 b4 y0 y1 y2 z0 z1 z2 z3 z4 z5; clear y0 y1 y2 z0 z1 z2 z3 z4 z5
              go_wp2_with fail
              refine hK.out _ _ ?_ (fun hHeld => ?_)
              · (try dsimp only); (first | assumption | exact ⟨y0, y1, y2, z0, z1, z2⟩ | exact ⟨y0', y1', y2', z0', z1', z2'⟩ | exact keep16s hXR y0' y1' y2' z0' z1' z2' _ _ _)
              clear hK K
              try simp only [Act.put, List.setIfInBounds_toArray, List.set_cons_zero, List.set_cons_succ]
              refine wpAnyH_take (i := 42) (oi := ⟨some 166, _, _, _, _, _⟩) (v := ?_) rfl (by kernel_rfl) (by kernel_rfl) (by kernel_rfl) (fun _ _ _ h => h) (Or.inl ⟨by rfl, ?_⟩) (by assumption) ?_
              rotate_left
              · intro w hSw; (try dsimp only at hSw); go_simp <;> with_reducible rfl
              try simp only [Act.put, List.setIfInBounds_toArray, List.set_cons_zero, List.set_cons_succ]
              refine wpAnyH_ready (rs := [43]) (by kernel_rfl) (by simp) ?_
              refine AllReadyH.cons (o := ⟨none, _, _, _, _, _⟩) rfl (fun K hK => ?_) AllReadyH.nil
              go_simp
              refine hK.out _ _ ?_ (fun hHeld => ?_)
              · (try dsimp only); (first | assumption | exact ⟨y0, y1, y2, z0, z1, z2⟩ | exact ⟨y0', y1', y2', z0', z1', z2'⟩ | exact keep16s hXR y0' y1' y2' z0' z1' z2' _ _ _)
              clear hK K
              try dsimp only [Act.put]
              refine wpAnyH_take (i := 44) (oi := ⟨some 5, _, _, _, _, _⟩) (v := ?_) rfl (by kernel_rfl) (by kernel_rfl) (by kernel_rfl) (fun _ _ _ h => h) (Or.inl ⟨by rfl, ?_⟩) (by assumption) ?_
              rotate_left
              · intro w hSw; (try dsimp only at hSw); go_simp <;> with_reducible rfl
              try simp only [Act.put, List.setIfInBounds_toArray, List.set_cons_zero, List.set_cons_succ]
              refine wpAnyH_done (by kernel_rfl) ?_ _
              rotate_left
              go_wp2
              have HXZ := hid (HX.out.step b4)
              obtain ⟨q0, q1, q2⟩ := set3N HXZ.out.hr (.slice AW (N + 5) cW) (.slice (some ⟨Cb, 0, none⟩) 4 4) (.slice (some ⟨T, 0, none⟩) 4 4)
              refine bodyPost_ret (v := .tuple #[.agg #[(.slice AW (N + 5) cW), .slice (some ⟨Cb, 0, none⟩) 4 4, .slice (some ⟨T, 0, none⟩) 4 4], .bool true]) (by simp [results, Tryd.results17, go_sem, q0, q1, q2]) rfl ?_
              exact ⟨AW, cW, Cb, T, _, tv, av, rfl, by have h := own_res HXZ.out.own HXZ.out.hr (by decide) (.slice AW (N + 5) cW) (.slice (some ⟨Cb, 0, none⟩) 4 4) (.slice (some ⟨T, 0, none⟩) 4 4); rw [HWL.out] at h; exact h, HXZ.out.mn.res HXZ.out.hr _ _ _, ((HXZ.out.below.setCell (p := ⟨w.heap.size, 0, none⟩) (Nat.le_refl _) _).setCell (p := ⟨w.heap.size, 1, none⟩) (Nat.le_refl _) _).setCell (p := ⟨w.heap.size, 2, none⟩) (Nat.le_refl _) _⟩
end Go.Proofs.YtabmkjokeeakdaaDoor
