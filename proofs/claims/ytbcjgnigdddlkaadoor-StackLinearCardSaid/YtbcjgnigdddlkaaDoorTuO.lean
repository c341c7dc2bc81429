/-
  What laws about queues and stacks read in memory. barographkeep.turned: its walk: true where there was no room. Written by gen_turno.py. What is known of the calls of a run of a queue or a stack: plain. (Merged by merge.py.)
-/
import Derived.Test.YtbcjgnigdddlkaaDoorQPl
import Derived.Test.YtbcjgnigdddlkaaDoorSched
import Derived.Test.YtbcjgnigdddlkaaDoorDsAt
import Derived.Deep.RegionHeld
import Derived.Test.YtbcjgnigdddlkaaDoorLnO
namespace Go.Proofs.YtbcjgnigdddlkaaDoor
set_option linter.unusedVariables false

section
open Go.RowKit
abbrev gBo : Bool → List Value := fun b => [.bool b]
theorem gBo_one (x : Bool) : ∀ u ∈ gBo x, u.oneCell' = true := by intro u hu; simp at hu; subst hu; rfl
theorem elmBo : Elm Tryd.prog 40 4 1 1 := elm_of (z := .bool false) Tryd.underlying40 (by kernel_rfl) rfl (by decide)
theorem cells3 {w w' : World} {p q r : Addr} {a b c : Value} (h : Below w.heap.size w w') (hp : w.cell? p = some a) (hq : w.cell? q = some b) (hr : w.cell? r = some c) : w'.cell? p = some a ∧ w'.cell? q = some b ∧ w'.cell? r = some c := ⟨cell_below h hp, cell_below h hq, cell_below h hr⟩
/-- the code of a call, in memory -/
theorem o_codeAt {B : Nat} {w : World} {nc nt : Nat} {Cb T : Nat} {cv tv : Nat → Value} {ks : Nat → List Op5} {th : Nat → List VCall} {av : Nat → List SV} (h : MN B w nc nt Cb T cv ks tv th av) {t c : Nat} {x : VCall} (ht : t < nt) (hc : (th t)[c]? = some x) :
    ∃ (bt ct : Nat) (ax : SV), w.cell? ⟨T, t, none⟩ = some (.slice (some ⟨bt, 0, none⟩) (th t).length ct) ∧ w.cell? ⟨bt, c * 2, none⟩ = some (.int .i64 (x.code : Int)) ∧ w.cell? ⟨bt, c * 2 + 1, none⟩ = some ax.v ∧ w.ownsRow B 3 1 ax.v x.args.length (x.args.flatMap gI) := by
  obtain ⟨r1, r2, r3⟩ := h.rows t ht
  obtain ⟨A, c', e, _⟩ := own_form r2
  have hcl := (List.getElem?_eq_some_iff.1 hc).1
  rw [e] at r2
  obtain ⟨b, c'', e2, _, hcell⟩ := own_at r2 (by omega)
  injection e2 with e2 e3 e4
  subst e2
  have hl : c < (av t).length := by rw [r1]; exact hcl
  have hav : (av t)[c]? = some (av t)[c] := List.getElem?_eq_getElem hl
  have hz : ((th t).zip (av t))[c]? = some (x, (av t)[c]) := by
    rw [List.getElem?_zip_eq_some]
    exact ⟨hc, hav⟩
  refine ⟨b, c', (av t)[c], by rw [h.tb.cell t, arrN_at tv ht, e], ?_, ?_, r3 c x _ hc hav⟩
  · have h := flatMap_at gS 2 (fun _ => rfl) _ c 0 _ hz (by decide)
    rw [Nat.add_zero] at h
    exact hcell (c * 2) _ (by rw [h]; rfl)
  · have h := flatMap_at gS 2 (fun _ => rfl) _ c 1 _ hz (by decide)
    exact hcell (c * 2 + 1) _ (by rw [h]; rfl)
end

section
open Go.RowKit
def aheadB (d d' : Dg) : Bool := match d.e with | none => false | some e => decide (e < d'.b)
abbrev dgV (d : Dg) (v : Value) : Value := .agg #[.int .i64 (d.b : Int), .int .i64 (eI d.e), .int .i64 (d.t : Int), .int .i64 (d.c : Int), v]
set_option maxHeartbeats 1000000 in
theorem ahead_of (d d' : Dg) (v v' : Value) (w : World) : Calls Tryd.prog 58 #[dgV d v, dgV d' v'] w fun e w' => e = .returned (.bool (aheadB d d')) ∧ Below w.heap.size w w' := by
  obtain ⟨X, hX⟩ : ∃ X, w.heap.size = X := ⟨_, rfl⟩
  obtain ⟨Y, hY⟩ : ∃ Y, X + 1 = Y := ⟨_, rfl⟩
  have BN := hid (bnew (bnew (bnil w) (.cells #[.int .i64 (d.b : Int), .int .i64 (eI d.e), .int .i64 (d.t : Int), .int .i64 (d.c : Int), v] 47)) (.cells #[.int .i64 (d'.b : Int), .int .i64 (eI d'.e), .int .i64 (d'.t : Int), .int .i64 (d'.c : Int), v'] 47))
  have HXB := hid ((blkN w 47 #[.int .i64 (d.b : Int), .int .i64 (eI d.e), .int .i64 (d.t : Int), .int .i64 (d.c : Int), v] X hX).alloc (.cells #[.int .i64 (d'.b : Int), .int .i64 (eI d'.e), .int .i64 (d'.t : Int), .int .i64 (d'.c : Int), v'] 47))
  have HYB := hid (blkN (w.alloc (.cells #[.int .i64 (d.b : Int), .int .i64 (eI d.e), .int .i64 (d.t : Int), .int .i64 (d.c : Int), v] 47)) 47 #[.int .i64 (d'.b : Int), .int .i64 (eI d'.e), .int .i64 (d'.t : Int), .int .i64 (d'.c : Int), v'] Y (by rw [World.size_alloc, hX, hY]))
  go_enter Tryd.func58, Tryd.ntmps58
  go_upto_region 1 with fail
  generalize World.alloc (World.alloc w _) _ = w2 at *
  have x1 : w2.cell? ⟨X, 1, none⟩ = some (.int .i64 (eI d.e)) := HXB.out.cell 1
  have y0 : w2.cell? ⟨Y, 0, none⟩ = some (.int .i64 (d'.b : Int)) := HYB.out.cell 0
  try rw [hX]
  try rw [hY]
  clear hX hY HXB HYB
  cases he : d.e with
  | none =>
    rw [he] at x1
    have x1 : w2.cell? ⟨X, 1, none⟩ = some (.int .i64 (-1)) := x1
    have hr : aheadB d d' = false := by unfold aheadB; rw [he]
    have HRR := hid hr
    clear he hr
    go_wp2_with fail
    go_ret
    exact ⟨(by rw [HRR.out]; rfl), BN.out⟩
  | some e =>
    rw [he] at x1
    have x1 : w2.cell? ⟨X, 1, none⟩ = some (.int .i64 (e : Int)) := x1
    have en : ((e : Int) != -1) = true := bneT (by omega)
    have en2 : ((e : Int) == -1) = false := beqF (by omega)
    rcases Nat.lt_or_ge e d'.b with h | h
    · have hr : aheadB d d' = true := by unfold aheadB; rw [he]; exact decide_eq_true h
      have hd : decide ((e : Int) < (d'.b : Int)) = true := decide_eq_true (by omega)
      have HRR := hid hr
      clear he hr
      go_wp2_with fail
      go_ret
      exact ⟨(by rw [HRR.out]; exact congrArg (fun b => Ending.returned (.bool b)) hd), BN.out⟩
    · have hr : aheadB d d' = false := by unfold aheadB; rw [he]; exact decide_eq_false (by omega)
      have hd : decide ((e : Int) < (d'.b : Int)) = false := decide_eq_false (by omega)
      have HRR := hid hr
      clear he hr
      go_wp2_with fail
      go_ret
      exact ⟨(by rw [HRR.out]; exact congrArg (fun b => Ending.returned (.bool b)) hd), BN.out⟩
theorem cntI_le {α : Type} (f : Nat → α → Bool) : ∀ (l : List α) (k : Nat), cntI f k l ≤ l.length
  | [], _ => Nat.le_refl _
  | x :: l, k => by
    have := cntI_le f l (k + 1)
    unfold cntI b2n
    rw [List.length_cons]
    split <;> omega
theorem cntI_next {α : Type} (f : Nat → α → Bool) {ds : List α} {k : Nat} {y : α} (h : ds[k]? = some y) : cntI f 0 (ds.take (k + 1)) = cntI f 0 (ds.take k) + b2n (f k y) := by
  have hl := (List.getElem?_eq_some_iff.1 h).1
  rw [List.take_add_one, h, Option.toList_some, cntI_snoc, List.length_take, Nat.min_eq_left (by omega), Nat.zero_add]
/-- the room that turned counts -/
structure RmI (N : Nat) (m : Mach) (ds : List Dg) (d : Dg) (i e k : Nat) (R : Int) : Prop where
  eq : R = (N : Int) + (cntI (fun _ => tkF m d.b) 0 (ds.take k) : Nat) - (cntI (ptF m i e) 0 (ds.take k) : Nat)
theorem RmI.bd {N : Nat} {m : Mach} {ds : List Dg} {d : Dg} {i e k : Nat} {R : Int} (h : RmI N m ds d i e k R) (hN : N ≤ 8) (hk : k ≤ 30) : -40 ≤ R ∧ R ≤ 40 := by
  have h1 := cntI_le (fun _ => tkF m d.b) (ds.take k) 0
  have h2 := cntI_le (ptF m i e) (ds.take k) 0
  have h3 := List.length_take_le k ds
  have := h.eq
  omega
theorem RmI.next {N : Nat} {m : Mach} {ds : List Dg} {d y : Dg} {i e k : Nat} {R : Int} (h : RmI N m ds d i e k R) (hy : ds[k]? = some y) {a b : Bool} (h1 : tkF m d.b y = a) (h2 : ptF m i e k y = b) {R' : Int} (hR : R' = R + (b2n a : Nat) - (b2n b : Nat)) : RmI N m ds d i e (k + 1) R' := by
  refine ⟨?_⟩
  rw [cntI_next _ hy, cntI_next _ hy, h1, h2, hR, h.eq]
  omega
theorem gpos {b : Nat} : ((b : Nat) : Int) = (b : Int) := rfl
set_option maxHeartbeats 8000000 in
set_option maxRecDepth 100000 in
theorem turned_of (B : Nat) (Wv : Value) (Cb T : Nat) (cv tv : Nat → Value) (ks : Nat → List Op5) (th : Nat → List VCall) (av : Nat → List SV) (A : Option Addr) (LD c : Nat) (rs : List (Dg × SV)) (ds : List Dg) (m : Mach) (i : Nat) (d : Dg) (e N : Nat) (w : World)
    (hM : MN B w 2 3 Cb T cv ks tv th av) (hD : DsAt B w (.slice A LD c) LD rs) (hds : rs.map (·.1) = ds) (hLD : LD ≤ 30) (hN : N ≤ 8) (hth : ∀ t c x, callOf m t c = some x → t < 3 ∧ (th t)[c]? = some x) (hl20 : ∀ t, t < 3 → (th t).length ≤ 20)
    (hd : ds[i]? = some d) (he : d.e = some e) (hp : putD m d = true) (hcall : ∀ (k : Nat) (y : Dg), ds[k]? = some y → ∃ x, callOf m y.t y.c = some x ∧ OkC x) (htold : ∀ (k : Nat) (y : Dg) (e : Nat), ds[k]? = some y → y.e = some e → ∃ v, y.told = [v]) (hfull : Full N m ds i d.b e) :
    Calls Tryd.prog 29 #[.agg #[Wv, .slice (some ⟨Cb, 0, none⟩) 2 2, .slice (some ⟨T, 0, none⟩) 3 3], .slice A LD c, .int .i64 (i : Int), .int .i64 (N : Int)] w fun e w' => e = .returned (.bool true) ∧ Below w.heap.size w w' := by
  have HM := hid hM; have HD := hid hD; have HDS := hid hds; have HTH := hid hth; have HD0 := hid hd; have HE0 := hid he; have HP0 := hid hp; have HC := hid hcall; have HTO := hid htold; have HF := hid hfull; have HL20 := hid hl20
  have hlen : ds.length = LD := by rw [← hds, List.length_map, hD.len]
  have hiL : i < LD := by have := (List.getElem?_eq_some_iff.1 hd).1; omega
  have HLEN := hid hlen
  clear hM hD hds hth hd he hp hcall htold hfull hlen hl20
  obtain ⟨X, hX⟩ : ∃ X, w.heap.size = X := ⟨_, rfl⟩
  have BN := hid (bnew (bnil w) (.cells #[Wv, .slice (some ⟨Cb, 0, none⟩) 2 2, .slice (some ⟨T, 0, none⟩) 3 3] 34))
  have HXB := hid (blkN w 34 #[Wv, .slice (some ⟨Cb, 0, none⟩) 2 2, .slice (some ⟨T, 0, none⟩) 3 3] X hX)
  go_enter Tryd.func29, Tryd.ntmps29
  go_upto_region 1 with fail
  try rw [hX]
  clear hX
  generalize World.alloc w _ = w2 at *
  have HM2 := hid (HM.out.below BN.out)
  have HD2 := hid (HD.out.below BN.out)
  clear HM HD
  go_wp2_with fail
  go_loopw [9, 10] (fun r v wr => ∃ (k : Nat) (R : Int), k ≤ LD ∧ v = .int .i64 k ∧ r = .int .i64 R ∧ Hid (RmI N m ds d i e k R) ∧ Hid (Below w2.heap.size w2 wr)) (fun _ v _ => LD - (intOf v).toNat)
  case atStart => exact ⟨0, N, Nat.zero_le _, rfl, rfl, hid ⟨by simp [cntI]⟩, hid (bnil _)⟩
  case round =>
    obtain ⟨k, R, hk, rfl, rfl, HR, BR⟩ := hrel
    have hRb := HR.out.bd hN (by omega)
    by_cases hlt : k < LD
    · have j1 : (k : Int) < (LD : Int) := by omega
      have j2 : (i : Int) < (LD : Int) := by omega
      obtain ⟨b9, y, Ay, cy, rfl, hy, lt9, u0, u1, u2, u3, u4, uy⟩ := (HD2.out.below BR.out).at_ hlt
      obtain ⟨b8, d', At, ct, hA8, hd', lt8, v0, v1, v2, v3, v4, ud⟩ := (HD2.out.below BR.out).at_ hiL
      injection hA8 with hA8; injection hA8 with hA8
      subst hA8
      rw [HDS.out] at hy hd'
      rw [HD0.out] at hd'; injection hd' with hd'; subst hd'
      rw [HE0.out] at v1
      replace v1 : wr.cell? ⟨b9, i * 5 + 1, none⟩ = some (.int .i64 (e : Int)) := v1
      obtain ⟨x, hx, hxok⟩ := HC.out k y hy
      obtain ⟨ht3, hxc⟩ := HTH.out _ _ _ hx
      obtain ⟨bt, cth, ax, t0, t1, _, _⟩ := o_codeAt (HM2.out.below BR.out) ht3 hxc
      have hcl := (List.getElem?_eq_some_iff.1 hxc).1
      have hl20 := HL20.out y.t ht3
      obtain ⟨NT, hNT⟩ : ∃ NT, (th y.t).length = NT := ⟨_, rfl⟩
      rw [hNT] at t0 hcl hl20
      have it3 : (y.t : Int) < 3 := by omega
      have icl : (y.c : Int) < (NT : Int) := by omega
      have x2 : wr.cell? ⟨X, 2, none⟩ = some (.slice (some ⟨T, 0, none⟩) 3 3) := (HXB.out.below' BR.out).cell 2
      have HY := hid hy
      have HX1 := hid hx
      have HUY := hid uy
      clear hy hx hxc hNT ud uy lt8 lt9
      by_cases hki : k = i
      · subst hki
        have hyd : y = d := by have h := HY.out; rw [HD0.out] at h; injection h with h; exact h.symm
        subst hyd
        have hx0 : (x.code : Int) = 0 := by
          have h := HP0.out; unfold putD at h; rw [HX1.out] at h
          have h : (x.code == 0) = true := h
          have : x.code = 0 := by simpa using h
          omega
        rw [hx0] at t1
        have HNX := hid (HR.out.next (R' := R) HY.out (a := false) (b := false) (by unfold tkF; rw [HP0.out]; rfl) (by unfold ptF; simp) (by simp [b2n]))
        have nki : ((k : Int) != (k : Int)) = false := bneF rfl
        clear v0 v1 v2 v3 v4 hx0
        go_upto_region 5 with fail
        go_quiet (fail)
        go_upto_region 8 with fail
        go_quiet (fail)
        go_wp2_with fail
        go_roundw
        case rel => exact ⟨k + 1, R, by omega, by go_num, by go_num, HNX, hid (below_drewN BR.out _)⟩
        case measure => simp [intOf]; omega
      · have nki : ((k : Int) != (i : Int)) = true := bneT (by omega)
        rcases hxok with ⟨hx0, _⟩ | ⟨hx1, _⟩
        · have hx0' : (x.code : Int) = 0 := by omega
          have hpy : putD m y = true := by unfold putD; rw [HX1.out]; show (x.code == 0) = true; rw [hx0]; rfl
          rw [hx0'] at t1
          have HTK := hid (show tkF m d.b y = false by unfold tkF; rw [hpy]; rfl)
          have HPY := hid hpy
          clear hx0 hx0' hpy
          by_cases hbe : y.b < e
          · have ib : (y.b : Int) < (e : Int) := by omega
            have HNX := hid (HR.out.next (R' := R - 1) HY.out (a := false) (b := true) HTK.out (by unfold ptF; rw [HPY.out]; simp [hki, hbe]) (by simp [b2n]))
            go_upto_region 5 with fail
            go_quiet (fail)
            go_upto_region 8 with fail
            go_quiet (fail)
            go_wp2_with fail
            go_roundw
            case rel => exact ⟨k + 1, R - 1, by omega, by go_num, by go_num, HNX, hid (below_drewN BR.out _)⟩
            case measure => simp [intOf]; omega
          · have ib : decide ((y.b : Int) < (e : Int)) = false := decide_eq_false (by omega)
            have HNX := hid (HR.out.next (R' := R) HY.out (a := false) (b := false) HTK.out (by unfold ptF; simp [hbe]) (by simp [b2n]))
            go_upto_region 5 with fail
            go_quiet (fail)
            go_upto_region 8 with fail
            go_quiet (fail)
            go_wp2_with fail
            go_roundw
            case rel => exact ⟨k + 1, R, by omega, by go_num, by go_num, HNX, hid (below_drewN BR.out _)⟩
            case measure => simp [intOf]; omega
        · have hx1' : (x.code : Int) = 1 := by omega
          have hpy : putD m y = false := by unfold putD; rw [HX1.out]; show (x.code == 0) = false; rw [hx1]; rfl
          rw [hx1'] at t1
          have HPT := hid (show ptF m i e k y = false by unfold ptF; rw [hpy]; simp)
          have HPY := hid hpy
          clear hx1 hx1' hpy
          go_upto_region 5 with fail
          go_quiet (fail)
          have HB1 := hid (below_drewN BR.out nq)
          have b0 := below_drewN (bnil wr) nq
          have u0 := cell_below b0 u0; have u1 := cell_below b0 u1; have u2 := cell_below b0 u2; have u3 := cell_below b0 u3; have u4 := cell_below b0 u4
          have v0 := cell_below b0 v0; have v1 := cell_below b0 v1; have v2 := cell_below b0 v2; have v3 := cell_below b0 v3; have v4 := cell_below b0 v4
          have HUY := hid (own_below HUY.out b0)
          obtain ⟨wp, hwp⟩ : ∃ wp, wr.drewN nq = wp := ⟨_, rfl⟩
          rw [hwp] at HB1 u0 u1 u2 u3 u4 v0 v1 v2 v3 v4 HUY ⊢
          clear hwp b0 t0 t1 x2 BR
          obtain ⟨LD2, hLD2⟩ : ∃ L, d.told.length = L := ⟨_, rfl⟩
          rw [hLD2] at v4
          cases hah : aheadB y d with
          | false =>
            obtain ⟨LY, hLY⟩ : ∃ L, y.told.length = L := ⟨_, rfl⟩
            rw [hLY] at u4
            obtain ⟨EY, hEY⟩ : ∃ E, eI y.e = E := ⟨_, rfl⟩
            rw [hEY] at u1
            have HAH := hid (show ∀ w9, Calls Tryd.prog 58 #[.agg #[.int .i64 (y.b : Int), .int .i64 EY, .int .i64 (y.t : Int), .int .i64 (y.c : Int), .slice Ay LY cy], .agg #[.int .i64 (d.b : Int), .int .i64 (e : Int), .int .i64 (d.t : Int), .int .i64 (d.c : Int), .slice At LD2 ct]] w9 (fun e9 w8 => e9 = .returned (.bool false) ∧ Below w9.heap.size w9 w8) from fun w9 => by
              have h := ahead_of y d (.slice Ay LY cy) (.slice At LD2 ct) w9
              unfold dgV at h
              rw [hah, HE0.out, hEY] at h
              exact h)
            have HNX := hid (HR.out.next (R' := R) HY.out (a := false) (b := false) (by
              unfold tkF; unfold aheadB at hah
              cases hye : y.e with
              | none => simp
              | some e2 =>
                rw [hye] at hah
                have h9 : decide (e2 < d.b) = false := hah
                show (!putD m y && decide (e2 < d.b) && _) = false
                rw [h9]; simp) HPT.out (by simp [b2n]))
            clear hah hLY hEY hLD2 HUY
            go_upto_region 6 with fail
            refine wp_region_held_drew (S := (fun w' => w'.cell? ⟨b9, k * 5, none⟩ = some (.int .i64 (y.b : Int)) ∧ w'.cell? ⟨b9, k * 5 + 1, none⟩ = some (.int .i64 EY) ∧ w'.cell? ⟨b9, k * 5 + 2, none⟩ = some (.int .i64 (y.t : Int)) ∧ w'.cell? ⟨b9, k * 5 + 3, none⟩ = some (.int .i64 (y.c : Int)) ∧ w'.cell? ⟨b9, k * 5 + 4, none⟩ = some (.slice Ay LY cy) ∧ w'.cell? ⟨b9, i * 5, none⟩ = some (.int .i64 (d.b : Int)) ∧ w'.cell? ⟨b9, i * 5 + 1, none⟩ = some (.int .i64 (e : Int)) ∧ w'.cell? ⟨b9, i * 5 + 2, none⟩ = some (.int .i64 (d.t : Int)) ∧ w'.cell? ⟨b9, i * 5 + 3, none⟩ = some (.int .i64 (d.c : Int)) ∧ w'.cell? ⟨b9, i * 5 + 4, none⟩ = some (.slice At LD2 ct))) (by kernel_rfl) ?_ (fun hHeld => ?_)
            · (try dsimp only); (first | assumption | exact ⟨u0, u1, u2, u3, u4, v0, v1, v2, v3, v4⟩ | exact ⟨cell_below b9x u0, cell_below b9x u1, cell_below b9x u2, cell_below b9x u3, cell_below b9x u4, cell_below b9x v0, cell_below b9x v1, cell_below b9x v2, cell_below b9x v3, cell_below b9x v4⟩)
            refine wpAnyH_take (i := 0) (oi := ⟨some 36, _, _, _, _, _⟩) (v := ?_) rfl (by kernel_rfl) (by kernel_rfl) (by kernel_rfl) (fun _ _ _ h => h) (Or.inl ⟨by rfl, ?_⟩) (by assumption) ?_
            rotate_left
            · intro w hSw; (try dsimp only at hSw); go_simp <;> with_reducible rfl
            try simp only [Act.put, List.setIfInBounds_toArray, List.set_cons_zero, List.set_cons_succ]
            refine wpAnyH_take (i := 1) (oi := ⟨some 37, _, _, _, _, _⟩) (v := ?_) rfl (by kernel_rfl) (by kernel_rfl) (by kernel_rfl) (fun _ _ _ h => h) (Or.inl ⟨by rfl, ?_⟩) (by assumption) ?_
            rotate_left
            · intro w hSw; (try dsimp only at hSw); go_simp <;> with_reducible rfl
            try simp only [Act.put, List.setIfInBounds_toArray, List.set_cons_zero, List.set_cons_succ]
            refine wpAnyH_take (i := 2) (oi := ⟨some 38, _, _, _, _, _⟩) (v := ?_) rfl (by kernel_rfl) (by kernel_rfl) (by kernel_rfl) (fun _ _ _ h => h) (Or.inl ⟨by rfl, ?_⟩) (by assumption) ?_
            rotate_left
            · intro w hSw; (try dsimp only at hSw); go_simp <;> with_reducible rfl
            try simp only [Act.put, List.setIfInBounds_toArray, List.set_cons_zero, List.set_cons_succ]
            refine wpAnyH_take (i := 3) (oi := ⟨some 39, _, _, _, _, _⟩) (v := ?_) rfl (by kernel_rfl) (by kernel_rfl) (by kernel_rfl) (fun _ _ _ h => h) (Or.inl ⟨by rfl, ?_⟩) (by assumption) ?_
            rotate_left
            · intro w hSw; (try dsimp only at hSw); go_simp <;> with_reducible rfl
            try simp only [Act.put, List.setIfInBounds_toArray, List.set_cons_zero, List.set_cons_succ]
            refine wpAnyH_take (i := 4) (oi := ⟨some 40, _, _, _, _, _⟩) (v := ?_) rfl (by kernel_rfl) (by kernel_rfl) (by kernel_rfl) (fun _ _ _ h => h) (Or.inl ⟨by rfl, ?_⟩) (by assumption) ?_
            rotate_left
            · intro w hSw; (try dsimp only at hSw); go_simp <;> with_reducible rfl
            try simp only [Act.put, List.setIfInBounds_toArray, List.set_cons_zero, List.set_cons_succ]
            refine wpAnyH_take (i := 5) (oi := ⟨some 41, _, _, _, _, _⟩) (v := ?_) rfl (by kernel_rfl) (by kernel_rfl) (by kernel_rfl) (fun _ _ _ h => h) (Or.inl ⟨by rfl, ?_⟩) (by assumption) ?_
            rotate_left
            · intro w hSw; (try dsimp only at hSw); go_simp <;> with_reducible rfl
            try simp only [Act.put, List.setIfInBounds_toArray, List.set_cons_zero, List.set_cons_succ]
            refine wpAnyH_take (i := 6) (oi := ⟨some 42, _, _, _, _, _⟩) (v := ?_) rfl (by kernel_rfl) (by kernel_rfl) (by kernel_rfl) (fun _ _ _ h => h) (Or.inl ⟨by rfl, ?_⟩) (by assumption) ?_
            rotate_left
            · intro w hSw; (try dsimp only at hSw); go_simp <;> with_reducible rfl
            try simp only [Act.put, List.setIfInBounds_toArray, List.set_cons_zero, List.set_cons_succ]
            refine wpAnyH_take (i := 7) (oi := ⟨some 43, _, _, _, _, _⟩) (v := ?_) rfl (by kernel_rfl) (by kernel_rfl) (by kernel_rfl) (fun _ _ _ h => h) (Or.inl ⟨by rfl, ?_⟩) (by assumption) ?_
            rotate_left
            · intro w hSw; (try dsimp only at hSw); go_simp <;> with_reducible rfl
            try simp only [Act.put, List.setIfInBounds_toArray, List.set_cons_zero, List.set_cons_succ]
            refine wpAnyH_ready (rs := [8]) (by kernel_rfl) (by simp) ?_
            refine AllReadyH.cons (o := ⟨some 44, _, _, _, _, _⟩) rfl (fun K hK => ?_) AllReadyH.nil
            go_simp
            refine (HAH.out _).mono ?_; rintro e9 w9 ⟨rfl, b9x⟩; have b9x := bgo (bnil wp).drew b9x
            go_wp2_with fail
            refine hK.out _ _ ?_ (fun hHeld => ?_)
            · (try dsimp only); (first | assumption | exact ⟨u0, u1, u2, u3, u4, v0, v1, v2, v3, v4⟩ | exact ⟨cell_below b9x u0, cell_below b9x u1, cell_below b9x u2, cell_below b9x u3, cell_below b9x u4, cell_below b9x v0, cell_below b9x v1, cell_below b9x v2, cell_below b9x v3, cell_below b9x v4⟩)
            clear hK K
            try simp only [Act.put, List.setIfInBounds_toArray, List.set_cons_zero, List.set_cons_succ]
            refine wpAnyH_take (i := 9) (oi := ⟨some 45, _, _, _, _, _⟩) (v := ?_) rfl (by kernel_rfl) (by kernel_rfl) (by kernel_rfl) (fun _ _ _ h => h) (Or.inl ⟨by rfl, ?_⟩) (by assumption) ?_
            rotate_left
            · intro w hSw; (try dsimp only at hSw); go_simp <;> with_reducible rfl
            try simp only [Act.put, List.setIfInBounds_toArray, List.set_cons_zero, List.set_cons_succ]
            refine wpAnyH_take (i := 10) (oi := ⟨some 46, _, _, _, _, _⟩) (v := undef) rfl (by kernel_rfl) (by kernel_rfl) (by kernel_rfl) (fun _ _ _ h => h) (Or.inr ⟨by rfl, rfl⟩) (by assumption) ?_
            try simp only [Act.put, List.setIfInBounds_toArray, List.set_cons_zero, List.set_cons_succ]
            refine wpAnyH_take (i := 11) (oi := ⟨some 47, _, _, _, _, _⟩) (v := undef) rfl (by kernel_rfl) (by kernel_rfl) (by kernel_rfl) (fun _ _ _ h => h) (Or.inr ⟨by rfl, rfl⟩) (by assumption) ?_
            try simp only [Act.put, List.setIfInBounds_toArray, List.set_cons_zero, List.set_cons_succ]
            refine wpAnyH_take (i := 12) (oi := ⟨some 48, _, _, _, _, _⟩) (v := undef) rfl (by kernel_rfl) (by kernel_rfl) (by kernel_rfl) (fun _ _ _ h => h) (Or.inr ⟨by rfl, rfl⟩) (by assumption) ?_
            try simp only [Act.put, List.setIfInBounds_toArray, List.set_cons_zero, List.set_cons_succ]
            refine wpAnyH_take (i := 13) (oi := ⟨some 49, _, _, _, _, _⟩) (v := undef) rfl (by kernel_rfl) (by kernel_rfl) (by kernel_rfl) (fun _ _ _ h => h) (Or.inr ⟨by rfl, rfl⟩) (by assumption) ?_
            try simp only [Act.put, List.setIfInBounds_toArray, List.set_cons_zero, List.set_cons_succ]
            refine wpAnyH_take (i := 14) (oi := ⟨some 50, _, _, _, _, _⟩) (v := undef) rfl (by kernel_rfl) (by kernel_rfl) (by kernel_rfl) (fun _ _ _ h => h) (Or.inr ⟨by rfl, rfl⟩) (by assumption) ?_
            try simp only [Act.put, List.setIfInBounds_toArray, List.set_cons_zero, List.set_cons_succ]
            refine wpAnyH_take (i := 15) (oi := ⟨some 51, _, _, _, _, _⟩) (v := undef) rfl (by kernel_rfl) (by kernel_rfl) (by kernel_rfl) (fun _ _ _ h => h) (Or.inr ⟨by rfl, rfl⟩) (by assumption) ?_
            try simp only [Act.put, List.setIfInBounds_toArray, List.set_cons_zero, List.set_cons_succ]
            refine wpAnyH_take (i := 16) (oi := ⟨some 52, _, _, _, _, _⟩) (v := undef) rfl (by kernel_rfl) (by kernel_rfl) (by kernel_rfl) (fun _ _ _ h => h) (Or.inr ⟨by rfl, rfl⟩) (by assumption) ?_
            try simp only [Act.put, List.setIfInBounds_toArray, List.set_cons_zero, List.set_cons_succ]
            refine wpAnyH_take (i := 17) (oi := ⟨some 53, _, _, _, _, _⟩) (v := ?_) rfl (by kernel_rfl) (by kernel_rfl) (by kernel_rfl) (fun _ _ _ h => h) (Or.inl ⟨by rfl, ?_⟩) (by assumption) ?_
            rotate_left
            · intro w hSw; (try dsimp only at hSw); go_simp <;> with_reducible rfl
            try simp only [Act.put, List.setIfInBounds_toArray, List.set_cons_zero, List.set_cons_succ]
            refine wpAnyH_take (i := 18) (oi := ⟨some 54, _, _, _, _, _⟩) (v := ?_) rfl (by kernel_rfl) (by kernel_rfl) (by kernel_rfl) (fun _ _ _ h => h) (Or.inl ⟨by rfl, ?_⟩) (by assumption) ?_
            rotate_left
            · intro w hSw; (try dsimp only at hSw); go_simp <;> with_reducible rfl
            try simp only [Act.put, List.setIfInBounds_toArray, List.set_cons_zero, List.set_cons_succ]
            refine wpAnyH_take (i := 19) (oi := ⟨some 55, _, _, _, _, _⟩) (v := undef) rfl (by kernel_rfl) (by kernel_rfl) (by kernel_rfl) (fun _ _ _ h => h) (Or.inr ⟨by rfl, rfl⟩) (by assumption) ?_
            try simp only [Act.put, List.setIfInBounds_toArray, List.set_cons_zero, List.set_cons_succ]
            refine wpAnyH_take (i := 20) (oi := ⟨some 56, _, _, _, _, _⟩) (v := undef) rfl (by kernel_rfl) (by kernel_rfl) (by kernel_rfl) (fun _ _ _ h => h) (Or.inr ⟨by rfl, rfl⟩) (by assumption) ?_
            try simp only [Act.put, List.setIfInBounds_toArray, List.set_cons_zero, List.set_cons_succ]
            refine wpAnyH_take (i := 21) (oi := ⟨some 57, _, _, _, _, _⟩) (v := undef) rfl (by kernel_rfl) (by kernel_rfl) (by kernel_rfl) (fun _ _ _ h => h) (Or.inr ⟨by rfl, rfl⟩) (by assumption) ?_
            try simp only [Act.put, List.setIfInBounds_toArray, List.set_cons_zero, List.set_cons_succ]
            refine wpAnyH_take (i := 22) (oi := ⟨some 58, _, _, _, _, _⟩) (v := undef) rfl (by kernel_rfl) (by kernel_rfl) (by kernel_rfl) (fun _ _ _ h => h) (Or.inr ⟨by rfl, rfl⟩) (by assumption) ?_
            try simp only [Act.put, List.setIfInBounds_toArray, List.set_cons_zero, List.set_cons_succ]
            refine wpAnyH_take (i := 23) (oi := ⟨some 59, _, _, _, _, _⟩) (v := undef) rfl (by kernel_rfl) (by kernel_rfl) (by kernel_rfl) (fun _ _ _ h => h) (Or.inr ⟨by rfl, rfl⟩) (by assumption) ?_
            try simp only [Act.put, List.setIfInBounds_toArray, List.set_cons_zero, List.set_cons_succ]
            refine wpAnyH_take (i := 24) (oi := ⟨some 60, _, _, _, _, _⟩) (v := undef) rfl (by kernel_rfl) (by kernel_rfl) (by kernel_rfl) (fun _ _ _ h => h) (Or.inr ⟨by rfl, rfl⟩) (by assumption) ?_
            try simp only [Act.put, List.setIfInBounds_toArray, List.set_cons_zero, List.set_cons_succ]
            refine wpAnyH_take (i := 25) (oi := ⟨some 61, _, _, _, _, _⟩) (v := undef) rfl (by kernel_rfl) (by kernel_rfl) (by kernel_rfl) (fun _ _ _ h => h) (Or.inr ⟨by rfl, rfl⟩) (by assumption) ?_
            try simp only [Act.put, List.setIfInBounds_toArray, List.set_cons_zero, List.set_cons_succ]
            refine wpAnyH_take (i := 26) (oi := ⟨some 62, _, _, _, _, _⟩) (v := undef) rfl (by kernel_rfl) (by kernel_rfl) (by kernel_rfl) (fun _ _ _ h => h) (Or.inr ⟨by rfl, rfl⟩) (by assumption) ?_
            try simp only [Act.put, List.setIfInBounds_toArray, List.set_cons_zero, List.set_cons_succ]
            refine wpAnyH_take (i := 27) (oi := ⟨some 63, _, _, _, _, _⟩) (v := ?_) rfl (by kernel_rfl) (by kernel_rfl) (by kernel_rfl) (fun _ _ _ h => h) (Or.inl ⟨by rfl, ?_⟩) (by assumption) ?_
            rotate_left
            · intro w hSw; (try dsimp only at hSw); go_simp <;> with_reducible rfl
            try simp only [Act.put, List.setIfInBounds_toArray, List.set_cons_zero, List.set_cons_succ]
            refine wpAnyH_done (by kernel_rfl) ?_ _
            rotate_left
            all_goals
              have HBN := hid (bgo HB1.out b9x)
              go_wp2_with fail
              go_roundw
              case rel => exact ⟨k + 1, R, by omega, by go_num, by go_num, HNX, HBN⟩
              case measure => simp [intOf]; omega
          | true =>
            obtain ⟨e2, hye, he2⟩ : ∃ e2, y.e = some e2 ∧ e2 < d.b := by
              unfold aheadB at hah
              cases hye : y.e with
              | none => rw [hye] at hah; cases hah
              | some e2 => rw [hye] at hah; exact ⟨e2, rfl, by simpa using hah⟩
            obtain ⟨vv, htd⟩ := HTO.out k y e2 HY.out hye
            obtain ⟨bo, rfl, hbo, o0⟩ := told_one HUY.out htd
            rw [hye] at u1
            replace u1 : wp.cell? ⟨b9, k * 5 + 1, none⟩ = some (.int .i64 (e2 : Int)) := u1
            have u4' : wp.cell? ⟨b9, k * 5 + 4, none⟩ = some (.slice (some ⟨bo, 0, none⟩) 1 cy) := by rw [u4, htd]; rfl
            clear u4
            have u4 := u4'
            clear u4'
            obtain ⟨EY, hEY⟩ : ∃ E, (e2 : Int) = E := ⟨_, rfl⟩
            rw [hEY] at u1
            have HAH := hid (show ∀ w9, Calls Tryd.prog 58 #[.agg #[.int .i64 (y.b : Int), .int .i64 EY, .int .i64 (y.t : Int), .int .i64 (y.c : Int), .slice (some ⟨bo, 0, none⟩) 1 cy], .agg #[.int .i64 (d.b : Int), .int .i64 (e : Int), .int .i64 (d.t : Int), .int .i64 (d.c : Int), .slice At LD2 ct]] w9 (fun e9 w8 => e9 = .returned (.bool true) ∧ Below w9.heap.size w9 w8) from fun w9 => by
              have h := ahead_of y d (.slice (some ⟨bo, 0, none⟩) 1 cy) (.slice At LD2 ct) w9
              unfold dgV at h
              rw [hah, HE0.out, hye, show eI (some e2) = EY from hEY] at h
              exact h)
            have HTKV := hid (show tkF m d.b y = (vv != -1) by
              unfold tkF; rw [HPY.out, hye, htd]
              show (!false && decide (e2 < d.b) && ([vv] != [-1])) = (vv != -1)
              rw [decide_eq_true he2]
              by_cases h : vv = -1
              · subst h; rfl
              · rw [show ([vv] != [-1]) = true from bne_iff_ne.2 (fun e => h (by injection e)), bneT h]; rfl)
            clear hah hye htd hEY he2 hLD2 HUY
            by_cases hv1 : vv = -1
            · have hv2 : (vv != -1) = false := bneF hv1
              have HNX := hid (HR.out.next (R' := R) HY.out (a := false) (b := false) (by rw [HTKV.out]; exact hv2) HPT.out (by simp [b2n]))
              clear hv1
              go_upto_region 6 with fail
              refine wp_region_held_drew (S := (fun w' => w'.cell? ⟨b9, k * 5, none⟩ = some (.int .i64 (y.b : Int)) ∧ w'.cell? ⟨b9, k * 5 + 1, none⟩ = some (.int .i64 EY) ∧ w'.cell? ⟨b9, k * 5 + 2, none⟩ = some (.int .i64 (y.t : Int)) ∧ w'.cell? ⟨b9, k * 5 + 3, none⟩ = some (.int .i64 (y.c : Int)) ∧ w'.cell? ⟨b9, k * 5 + 4, none⟩ = some (.slice (some ⟨bo, 0, none⟩) 1 cy) ∧ w'.cell? ⟨b9, i * 5, none⟩ = some (.int .i64 (d.b : Int)) ∧ w'.cell? ⟨b9, i * 5 + 1, none⟩ = some (.int .i64 (e : Int)) ∧ w'.cell? ⟨b9, i * 5 + 2, none⟩ = some (.int .i64 (d.t : Int)) ∧ w'.cell? ⟨b9, i * 5 + 3, none⟩ = some (.int .i64 (d.c : Int)) ∧ w'.cell? ⟨b9, i * 5 + 4, none⟩ = some (.slice At LD2 ct) ∧ w'.cell? ⟨bo, 0, none⟩ = some (.int .i64 vv))) (by kernel_rfl) ?_ (fun hHeld => ?_)
              · (try dsimp only); (first | assumption | exact ⟨u0, u1, u2, u3, u4, v0, v1, v2, v3, v4, o0⟩ | exact ⟨cell_below b9x u0, cell_below b9x u1, cell_below b9x u2, cell_below b9x u3, cell_below b9x u4, cell_below b9x v0, cell_below b9x v1, cell_below b9x v2, cell_below b9x v3, cell_below b9x v4, cell_below b9x o0⟩)
              refine wpAnyH_take (i := 0) (oi := ⟨some 36, _, _, _, _, _⟩) (v := ?_) rfl (by kernel_rfl) (by kernel_rfl) (by kernel_rfl) (fun _ _ _ h => h) (Or.inl ⟨by rfl, ?_⟩) (by assumption) ?_
              rotate_left
              · intro w hSw; (try dsimp only at hSw); go_simp <;> with_reducible rfl
              try simp only [Act.put, List.setIfInBounds_toArray, List.set_cons_zero, List.set_cons_succ]
              refine wpAnyH_take (i := 1) (oi := ⟨some 37, _, _, _, _, _⟩) (v := ?_) rfl (by kernel_rfl) (by kernel_rfl) (by kernel_rfl) (fun _ _ _ h => h) (Or.inl ⟨by rfl, ?_⟩) (by assumption) ?_
              rotate_left
              · intro w hSw; (try dsimp only at hSw); go_simp <;> with_reducible rfl
              try simp only [Act.put, List.setIfInBounds_toArray, List.set_cons_zero, List.set_cons_succ]
              refine wpAnyH_take (i := 2) (oi := ⟨some 38, _, _, _, _, _⟩) (v := ?_) rfl (by kernel_rfl) (by kernel_rfl) (by kernel_rfl) (fun _ _ _ h => h) (Or.inl ⟨by rfl, ?_⟩) (by assumption) ?_
              rotate_left
              · intro w hSw; (try dsimp only at hSw); go_simp <;> with_reducible rfl
              try simp only [Act.put, List.setIfInBounds_toArray, List.set_cons_zero, List.set_cons_succ]
              refine wpAnyH_take (i := 3) (oi := ⟨some 39, _, _, _, _, _⟩) (v := ?_) rfl (by kernel_rfl) (by kernel_rfl) (by kernel_rfl) (fun _ _ _ h => h) (Or.inl ⟨by rfl, ?_⟩) (by assumption) ?_
              rotate_left
              · intro w hSw; (try dsimp only at hSw); go_simp <;> with_reducible rfl
              try simp only [Act.put, List.setIfInBounds_toArray, List.set_cons_zero, List.set_cons_succ]
              refine wpAnyH_take (i := 4) (oi := ⟨some 40, _, _, _, _, _⟩) (v := ?_) rfl (by kernel_rfl) (by kernel_rfl) (by kernel_rfl) (fun _ _ _ h => h) (Or.inl ⟨by rfl, ?_⟩) (by assumption) ?_
              rotate_left
              · intro w hSw; (try dsimp only at hSw); go_simp <;> with_reducible rfl
              try simp only [Act.put, List.setIfInBounds_toArray, List.set_cons_zero, List.set_cons_succ]
              refine wpAnyH_take (i := 5) (oi := ⟨some 41, _, _, _, _, _⟩) (v := ?_) rfl (by kernel_rfl) (by kernel_rfl) (by kernel_rfl) (fun _ _ _ h => h) (Or.inl ⟨by rfl, ?_⟩) (by assumption) ?_
              rotate_left
              · intro w hSw; (try dsimp only at hSw); go_simp <;> with_reducible rfl
              try simp only [Act.put, List.setIfInBounds_toArray, List.set_cons_zero, List.set_cons_succ]
              refine wpAnyH_take (i := 6) (oi := ⟨some 42, _, _, _, _, _⟩) (v := ?_) rfl (by kernel_rfl) (by kernel_rfl) (by kernel_rfl) (fun _ _ _ h => h) (Or.inl ⟨by rfl, ?_⟩) (by assumption) ?_
              rotate_left
              · intro w hSw; (try dsimp only at hSw); go_simp <;> with_reducible rfl
              try simp only [Act.put, List.setIfInBounds_toArray, List.set_cons_zero, List.set_cons_succ]
              refine wpAnyH_take (i := 7) (oi := ⟨some 43, _, _, _, _, _⟩) (v := ?_) rfl (by kernel_rfl) (by kernel_rfl) (by kernel_rfl) (fun _ _ _ h => h) (Or.inl ⟨by rfl, ?_⟩) (by assumption) ?_
              rotate_left
              · intro w hSw; (try dsimp only at hSw); go_simp <;> with_reducible rfl
              try simp only [Act.put, List.setIfInBounds_toArray, List.set_cons_zero, List.set_cons_succ]
              refine wpAnyH_ready (rs := [8]) (by kernel_rfl) (by simp) ?_
              refine AllReadyH.cons (o := ⟨some 44, _, _, _, _, _⟩) rfl (fun K hK => ?_) AllReadyH.nil
              go_simp
              refine (HAH.out _).mono ?_; rintro e9 w9 ⟨rfl, b9x⟩; have b9x := bgo (bnil wp).drew b9x
              go_wp2_with fail
              refine hK.out _ _ ?_ (fun hHeld => ?_)
              · (try dsimp only); (first | assumption | exact ⟨u0, u1, u2, u3, u4, v0, v1, v2, v3, v4, o0⟩ | exact ⟨cell_below b9x u0, cell_below b9x u1, cell_below b9x u2, cell_below b9x u3, cell_below b9x u4, cell_below b9x v0, cell_below b9x v1, cell_below b9x v2, cell_below b9x v3, cell_below b9x v4, cell_below b9x o0⟩)
              clear hK K
              try simp only [Act.put, List.setIfInBounds_toArray, List.set_cons_zero, List.set_cons_succ]
              refine wpAnyH_take (i := 9) (oi := ⟨some 45, _, _, _, _, _⟩) (v := ?_) rfl (by kernel_rfl) (by kernel_rfl) (by kernel_rfl) (fun _ _ _ h => h) (Or.inl ⟨by rfl, ?_⟩) (by assumption) ?_
              rotate_left
              · intro w hSw; (try dsimp only at hSw); go_simp <;> with_reducible rfl
              try simp only [Act.put, List.setIfInBounds_toArray, List.set_cons_zero, List.set_cons_succ]
              refine wpAnyH_take (i := 10) (oi := ⟨some 46, _, _, _, _, _⟩) (v := ?_) rfl (by kernel_rfl) (by kernel_rfl) (by kernel_rfl) (fun _ _ _ h => h) (Or.inl ⟨by rfl, ?_⟩) (by assumption) ?_
              rotate_left
              · intro w hSw; (try dsimp only at hSw); go_simp <;> with_reducible rfl
              try simp only [Act.put, List.setIfInBounds_toArray, List.set_cons_zero, List.set_cons_succ]
              refine wpAnyH_take (i := 11) (oi := ⟨some 47, _, _, _, _, _⟩) (v := ?_) rfl (by kernel_rfl) (by kernel_rfl) (by kernel_rfl) (fun _ _ _ h => h) (Or.inl ⟨by rfl, ?_⟩) (by assumption) ?_
              rotate_left
              · intro w hSw; (try dsimp only at hSw); go_simp <;> with_reducible rfl
              try simp only [Act.put, List.setIfInBounds_toArray, List.set_cons_zero, List.set_cons_succ]
              refine wpAnyH_take (i := 12) (oi := ⟨some 48, _, _, _, _, _⟩) (v := ?_) rfl (by kernel_rfl) (by kernel_rfl) (by kernel_rfl) (fun _ _ _ h => h) (Or.inl ⟨by rfl, ?_⟩) (by assumption) ?_
              rotate_left
              · intro w hSw; (try dsimp only at hSw); go_simp <;> with_reducible rfl
              try simp only [Act.put, List.setIfInBounds_toArray, List.set_cons_zero, List.set_cons_succ]
              refine wpAnyH_take (i := 13) (oi := ⟨some 49, _, _, _, _, _⟩) (v := ?_) rfl (by kernel_rfl) (by kernel_rfl) (by kernel_rfl) (fun _ _ _ h => h) (Or.inl ⟨by rfl, ?_⟩) (by assumption) ?_
              rotate_left
              · intro w hSw; (try dsimp only at hSw); go_simp <;> with_reducible rfl
              try simp only [Act.put, List.setIfInBounds_toArray, List.set_cons_zero, List.set_cons_succ]
              refine wpAnyH_take (i := 14) (oi := ⟨some 50, _, _, _, _, _⟩) (v := ?_) rfl (by kernel_rfl) (by kernel_rfl) (by kernel_rfl) (fun _ _ _ h => h) (Or.inl ⟨by rfl, ?_⟩) (by assumption) ?_
              rotate_left
              · intro w hSw; (try dsimp only at hSw); go_simp <;> with_reducible rfl
              try simp only [Act.put, List.setIfInBounds_toArray, List.set_cons_zero, List.set_cons_succ]
              refine wpAnyH_take (i := 15) (oi := ⟨some 51, _, _, _, _, _⟩) (v := ?_) rfl (by kernel_rfl) (by kernel_rfl) (by kernel_rfl) (fun _ _ _ h => h) (Or.inl ⟨by rfl, ?_⟩) (by assumption) ?_
              rotate_left
              · intro w hSw; (try dsimp only at hSw); go_simp <;> with_reducible rfl
              try simp only [Act.put, List.setIfInBounds_toArray, List.set_cons_zero, List.set_cons_succ]
              refine wpAnyH_take (i := 16) (oi := ⟨some 52, _, _, _, _, _⟩) (v := ?_) rfl (by kernel_rfl) (by kernel_rfl) (by kernel_rfl) (fun _ _ _ h => h) (Or.inl ⟨by rfl, ?_⟩) (by assumption) ?_
              rotate_left
              · intro w hSw; (try dsimp only at hSw); go_simp <;> with_reducible rfl
              try simp only [Act.put, List.setIfInBounds_toArray, List.set_cons_zero, List.set_cons_succ]
              refine wpAnyH_take (i := 17) (oi := ⟨some 53, _, _, _, _, _⟩) (v := ?_) rfl (by kernel_rfl) (by kernel_rfl) (by kernel_rfl) (fun _ _ _ h => h) (Or.inl ⟨by rfl, ?_⟩) (by assumption) ?_
              rotate_left
              · intro w hSw; (try dsimp only at hSw); go_simp <;> with_reducible rfl
              try simp only [Act.put, List.setIfInBounds_toArray, List.set_cons_zero, List.set_cons_succ]
              refine wpAnyH_take (i := 18) (oi := ⟨some 54, _, _, _, _, _⟩) (v := ?_) rfl (by kernel_rfl) (by kernel_rfl) (by kernel_rfl) (fun _ _ _ h => h) (Or.inl ⟨by rfl, ?_⟩) (by assumption) ?_
              rotate_left
              · intro w hSw; (try dsimp only at hSw); go_simp <;> with_reducible rfl
              try simp only [Act.put, List.setIfInBounds_toArray, List.set_cons_zero, List.set_cons_succ]
              refine wpAnyH_take (i := 19) (oi := ⟨some 55, _, _, _, _, _⟩) (v := ?_) rfl (by kernel_rfl) (by kernel_rfl) (by kernel_rfl) (fun _ _ _ h => h) (Or.inl ⟨by rfl, ?_⟩) (by assumption) ?_
              rotate_left
              · intro w hSw; (try dsimp only at hSw); go_simp <;> with_reducible rfl
              try simp only [Act.put, List.setIfInBounds_toArray, List.set_cons_zero, List.set_cons_succ]
              refine wpAnyH_take (i := 20) (oi := ⟨some 56, _, _, _, _, _⟩) (v := ?_) rfl (by kernel_rfl) (by kernel_rfl) (by kernel_rfl) (fun _ _ _ h => h) (Or.inl ⟨by rfl, ?_⟩) (by assumption) ?_
              rotate_left
              · intro w hSw; (try dsimp only at hSw); go_simp <;> with_reducible rfl
              try simp only [Act.put, List.setIfInBounds_toArray, List.set_cons_zero, List.set_cons_succ]
              refine wpAnyH_take (i := 21) (oi := ⟨some 57, _, _, _, _, _⟩) (v := ?_) rfl (by kernel_rfl) (by kernel_rfl) (by kernel_rfl) (fun _ _ _ h => h) (Or.inl ⟨by rfl, ?_⟩) (by assumption) ?_
              rotate_left
              · intro w hSw; (try dsimp only at hSw); go_simp <;> with_reducible rfl
              try simp only [Act.put, List.setIfInBounds_toArray, List.set_cons_zero, List.set_cons_succ]
              refine wpAnyH_take (i := 22) (oi := ⟨some 58, _, _, _, _, _⟩) (v := ?_) rfl (by kernel_rfl) (by kernel_rfl) (by kernel_rfl) (fun _ _ _ h => h) (Or.inl ⟨by rfl, ?_⟩) (by assumption) ?_
              rotate_left
              · intro w hSw; (try dsimp only at hSw); go_simp <;> with_reducible rfl
              try simp only [Act.put, List.setIfInBounds_toArray, List.set_cons_zero, List.set_cons_succ]
              refine wpAnyH_take (i := 23) (oi := ⟨some 59, _, _, _, _, _⟩) (v := ?_) rfl (by kernel_rfl) (by kernel_rfl) (by kernel_rfl) (fun _ _ _ h => h) (Or.inl ⟨by rfl, ?_⟩) (by assumption) ?_
              rotate_left
              · intro w hSw; (try dsimp only at hSw); go_simp <;> with_reducible rfl
              try simp only [Act.put, List.setIfInBounds_toArray, List.set_cons_zero, List.set_cons_succ]
              refine wpAnyH_take (i := 24) (oi := ⟨some 60, _, _, _, _, _⟩) (v := ?_) rfl (by kernel_rfl) (by kernel_rfl) (by kernel_rfl) (fun _ _ _ h => h) (Or.inl ⟨by rfl, ?_⟩) (by assumption) ?_
              rotate_left
              · intro w hSw; (try dsimp only at hSw); go_simp <;> with_reducible rfl
              try simp only [Act.put, List.setIfInBounds_toArray, List.set_cons_zero, List.set_cons_succ]
              refine wpAnyH_take (i := 25) (oi := ⟨some 61, _, _, _, _, _⟩) (v := ?_) rfl (by kernel_rfl) (by kernel_rfl) (by kernel_rfl) (fun _ _ _ h => h) (Or.inl ⟨by rfl, ?_⟩) (by assumption) ?_
              rotate_left
              · intro w hSw; (try dsimp only at hSw); go_simp <;> with_reducible rfl
              try simp only [Act.put, List.setIfInBounds_toArray, List.set_cons_zero, List.set_cons_succ]
              refine wpAnyH_take (i := 26) (oi := ⟨some 62, _, _, _, _, _⟩) (v := .bool false) rfl (by kernel_rfl) (by kernel_rfl) (by kernel_rfl) (fun _ _ _ h => h) (Or.inl ⟨by rfl, ?_⟩) (by assumption) ?_
              · intro w hSw; (try dsimp only at hSw); go_simp <;> (first | with_reducible rfl | rfl | rw [hv2])
              try simp only [Act.put, List.setIfInBounds_toArray, List.set_cons_zero, List.set_cons_succ]
              refine wpAnyH_take (i := 27) (oi := ⟨some 63, _, _, _, _, _⟩) (v := ?_) rfl (by kernel_rfl) (by kernel_rfl) (by kernel_rfl) (fun _ _ _ h => h) (Or.inl ⟨by rfl, ?_⟩) (by assumption) ?_
              rotate_left
              · intro w hSw; (try dsimp only at hSw); go_simp <;> with_reducible rfl
              try simp only [Act.put, List.setIfInBounds_toArray, List.set_cons_zero, List.set_cons_succ]
              refine wpAnyH_done (by kernel_rfl) ?_ _
              rotate_left
              all_goals
                have HBN := hid (bgo HB1.out b9x)
                go_wp2_with fail
                go_roundw
                case rel => exact ⟨k + 1, R, by omega, by go_num, by go_num, HNX, HBN⟩
                case measure => simp [intOf]; omega
            · have hv2 : (vv != -1) = true := bneT hv1
              have HNX := hid (HR.out.next (R' := R + 1) HY.out (a := true) (b := false) (by rw [HTKV.out]; exact hv2) HPT.out (by simp [b2n]))
              clear hv1
              go_upto_region 6 with fail
              refine wp_region_held_drew (S := (fun w' => w'.cell? ⟨b9, k * 5, none⟩ = some (.int .i64 (y.b : Int)) ∧ w'.cell? ⟨b9, k * 5 + 1, none⟩ = some (.int .i64 EY) ∧ w'.cell? ⟨b9, k * 5 + 2, none⟩ = some (.int .i64 (y.t : Int)) ∧ w'.cell? ⟨b9, k * 5 + 3, none⟩ = some (.int .i64 (y.c : Int)) ∧ w'.cell? ⟨b9, k * 5 + 4, none⟩ = some (.slice (some ⟨bo, 0, none⟩) 1 cy) ∧ w'.cell? ⟨b9, i * 5, none⟩ = some (.int .i64 (d.b : Int)) ∧ w'.cell? ⟨b9, i * 5 + 1, none⟩ = some (.int .i64 (e : Int)) ∧ w'.cell? ⟨b9, i * 5 + 2, none⟩ = some (.int .i64 (d.t : Int)) ∧ w'.cell? ⟨b9, i * 5 + 3, none⟩ = some (.int .i64 (d.c : Int)) ∧ w'.cell? ⟨b9, i * 5 + 4, none⟩ = some (.slice At LD2 ct) ∧ w'.cell? ⟨bo, 0, none⟩ = some (.int .i64 vv))) (by kernel_rfl) ?_ (fun hHeld => ?_)
              · (try dsimp only); (first | assumption | exact ⟨u0, u1, u2, u3, u4, v0, v1, v2, v3, v4, o0⟩ | exact ⟨cell_below b9x u0, cell_below b9x u1, cell_below b9x u2, cell_below b9x u3, cell_below b9x u4, cell_below b9x v0, cell_below b9x v1, cell_below b9x v2, cell_below b9x v3, cell_below b9x v4, cell_below b9x o0⟩)
              refine wpAnyH_take (i := 0) (oi := ⟨some 36, _, _, _, _, _⟩) (v := ?_) rfl (by kernel_rfl) (by kernel_rfl) (by kernel_rfl) (fun _ _ _ h => h) (Or.inl ⟨by rfl, ?_⟩) (by assumption) ?_
              rotate_left
              · intro w hSw; (try dsimp only at hSw); go_simp <;> with_reducible rfl
              try simp only [Act.put, List.setIfInBounds_toArray, List.set_cons_zero, List.set_cons_succ]
              refine wpAnyH_take (i := 1) (oi := ⟨some 37, _, _, _, _, _⟩) (v := ?_) rfl (by kernel_rfl) (by kernel_rfl) (by kernel_rfl) (fun _ _ _ h => h) (Or.inl ⟨by rfl, ?_⟩) (by assumption) ?_
              rotate_left
              · intro w hSw; (try dsimp only at hSw); go_simp <;> with_reducible rfl
              try simp only [Act.put, List.setIfInBounds_toArray, List.set_cons_zero, List.set_cons_succ]
              refine wpAnyH_take (i := 2) (oi := ⟨some 38, _, _, _, _, _⟩) (v := ?_) rfl (by kernel_rfl) (by kernel_rfl) (by kernel_rfl) (fun _ _ _ h => h) (Or.inl ⟨by rfl, ?_⟩) (by assumption) ?_
              rotate_left
              · intro w hSw; (try dsimp only at hSw); go_simp <;> with_reducible rfl
              try simp only [Act.put, List.setIfInBounds_toArray, List.set_cons_zero, List.set_cons_succ]
              refine wpAnyH_take (i := 3) (oi := ⟨some 39, _, _, _, _, _⟩) (v := ?_) rfl (by kernel_rfl) (by kernel_rfl) (by kernel_rfl) (fun _ _ _ h => h) (Or.inl ⟨by rfl, ?_⟩) (by assumption) ?_
              rotate_left
              · intro w hSw; (try dsimp only at hSw); go_simp <;> with_reducible rfl
              try simp only [Act.put, List.setIfInBounds_toArray, List.set_cons_zero, List.set_cons_succ]
              refine wpAnyH_take (i := 4) (oi := ⟨some 40, _, _, _, _, _⟩) (v := ?_) rfl (by kernel_rfl) (by kernel_rfl) (by kernel_rfl) (fun _ _ _ h => h) (Or.inl ⟨by rfl, ?_⟩) (by assumption) ?_
              rotate_left
              · intro w hSw; (try dsimp only at hSw); go_simp <;> with_reducible rfl
              try simp only [Act.put, List.setIfInBounds_toArray, List.set_cons_zero, List.set_cons_succ]
              refine wpAnyH_take (i := 5) (oi := ⟨some 41, _, _, _, _, _⟩) (v := ?_) rfl (by kernel_rfl) (by kernel_rfl) (by kernel_rfl) (fun _ _ _ h => h) (Or.inl ⟨by rfl, ?_⟩) (by assumption) ?_
              rotate_left
              · intro w hSw; (try dsimp only at hSw); go_simp <;> with_reducible rfl
              try simp only [Act.put, List.setIfInBounds_toArray, List.set_cons_zero, List.set_cons_succ]
              refine wpAnyH_take (i := 6) (oi := ⟨some 42, _, _, _, _, _⟩) (v := ?_) rfl (by kernel_rfl) (by kernel_rfl) (by kernel_rfl) (fun _ _ _ h => h) (Or.inl ⟨by rfl, ?_⟩) (by assumption) ?_
              rotate_left
              · intro w hSw; (try dsimp only at hSw); go_simp <;> with_reducible rfl
              try simp only [Act.put, List.setIfInBounds_toArray, List.set_cons_zero, List.set_cons_succ]
              refine wpAnyH_take (i := 7) (oi := ⟨some 43, _, _, _, _, _⟩) (v := ?_) rfl (by kernel_rfl) (by kernel_rfl) (by kernel_rfl) (fun _ _ _ h => h) (Or.inl ⟨by rfl, ?_⟩) (by assumption) ?_
              rotate_left
              · intro w hSw; (try dsimp only at hSw); go_simp <;> with_reducible rfl
              try simp only [Act.put, List.setIfInBounds_toArray, List.set_cons_zero, List.set_cons_succ]
              refine wpAnyH_ready (rs := [8]) (by kernel_rfl) (by simp) ?_
              refine AllReadyH.cons (o := ⟨some 44, _, _, _, _, _⟩) rfl (fun K hK => ?_) AllReadyH.nil
              go_simp
              refine (HAH.out _).mono ?_; rintro e9 w9 ⟨rfl, b9x⟩; have b9x := bgo (bnil wp).drew b9x
              go_wp2_with fail
              refine hK.out _ _ ?_ (fun hHeld => ?_)
              · (try dsimp only); (first | assumption | exact ⟨u0, u1, u2, u3, u4, v0, v1, v2, v3, v4, o0⟩ | exact ⟨cell_below b9x u0, cell_below b9x u1, cell_below b9x u2, cell_below b9x u3, cell_below b9x u4, cell_below b9x v0, cell_below b9x v1, cell_below b9x v2, cell_below b9x v3, cell_below b9x v4, cell_below b9x o0⟩)
              clear hK K
              try simp only [Act.put, List.setIfInBounds_toArray, List.set_cons_zero, List.set_cons_succ]
              refine wpAnyH_take (i := 9) (oi := ⟨some 45, _, _, _, _, _⟩) (v := ?_) rfl (by kernel_rfl) (by kernel_rfl) (by kernel_rfl) (fun _ _ _ h => h) (Or.inl ⟨by rfl, ?_⟩) (by assumption) ?_
              rotate_left
              · intro w hSw; (try dsimp only at hSw); go_simp <;> with_reducible rfl
              try simp only [Act.put, List.setIfInBounds_toArray, List.set_cons_zero, List.set_cons_succ]
              refine wpAnyH_take (i := 10) (oi := ⟨some 46, _, _, _, _, _⟩) (v := ?_) rfl (by kernel_rfl) (by kernel_rfl) (by kernel_rfl) (fun _ _ _ h => h) (Or.inl ⟨by rfl, ?_⟩) (by assumption) ?_
              rotate_left
              · intro w hSw; (try dsimp only at hSw); go_simp <;> with_reducible rfl
              try simp only [Act.put, List.setIfInBounds_toArray, List.set_cons_zero, List.set_cons_succ]
              refine wpAnyH_take (i := 11) (oi := ⟨some 47, _, _, _, _, _⟩) (v := ?_) rfl (by kernel_rfl) (by kernel_rfl) (by kernel_rfl) (fun _ _ _ h => h) (Or.inl ⟨by rfl, ?_⟩) (by assumption) ?_
              rotate_left
              · intro w hSw; (try dsimp only at hSw); go_simp <;> with_reducible rfl
              try simp only [Act.put, List.setIfInBounds_toArray, List.set_cons_zero, List.set_cons_succ]
              refine wpAnyH_take (i := 12) (oi := ⟨some 48, _, _, _, _, _⟩) (v := ?_) rfl (by kernel_rfl) (by kernel_rfl) (by kernel_rfl) (fun _ _ _ h => h) (Or.inl ⟨by rfl, ?_⟩) (by assumption) ?_
              rotate_left
              · intro w hSw; (try dsimp only at hSw); go_simp <;> with_reducible rfl
              try simp only [Act.put, List.setIfInBounds_toArray, List.set_cons_zero, List.set_cons_succ]
              refine wpAnyH_take (i := 13) (oi := ⟨some 49, _, _, _, _, _⟩) (v := ?_) rfl (by kernel_rfl) (by kernel_rfl) (by kernel_rfl) (fun _ _ _ h => h) (Or.inl ⟨by rfl, ?_⟩) (by assumption) ?_
              rotate_left
              · intro w hSw; (try dsimp only at hSw); go_simp <;> with_reducible rfl
              try simp only [Act.put, List.setIfInBounds_toArray, List.set_cons_zero, List.set_cons_succ]
              refine wpAnyH_take (i := 14) (oi := ⟨some 50, _, _, _, _, _⟩) (v := ?_) rfl (by kernel_rfl) (by kernel_rfl) (by kernel_rfl) (fun _ _ _ h => h) (Or.inl ⟨by rfl, ?_⟩) (by assumption) ?_
              rotate_left
              · intro w hSw; (try dsimp only at hSw); go_simp <;> with_reducible rfl
              try simp only [Act.put, List.setIfInBounds_toArray, List.set_cons_zero, List.set_cons_succ]
              refine wpAnyH_take (i := 15) (oi := ⟨some 51, _, _, _, _, _⟩) (v := ?_) rfl (by kernel_rfl) (by kernel_rfl) (by kernel_rfl) (fun _ _ _ h => h) (Or.inl ⟨by rfl, ?_⟩) (by assumption) ?_
              rotate_left
              · intro w hSw; (try dsimp only at hSw); go_simp <;> with_reducible rfl
              try simp only [Act.put, List.setIfInBounds_toArray, List.set_cons_zero, List.set_cons_succ]
              refine wpAnyH_take (i := 16) (oi := ⟨some 52, _, _, _, _, _⟩) (v := ?_) rfl (by kernel_rfl) (by kernel_rfl) (by kernel_rfl) (fun _ _ _ h => h) (Or.inl ⟨by rfl, ?_⟩) (by assumption) ?_
              rotate_left
              · intro w hSw; (try dsimp only at hSw); go_simp <;> with_reducible rfl
              try simp only [Act.put, List.setIfInBounds_toArray, List.set_cons_zero, List.set_cons_succ]
              refine wpAnyH_take (i := 17) (oi := ⟨some 53, _, _, _, _, _⟩) (v := ?_) rfl (by kernel_rfl) (by kernel_rfl) (by kernel_rfl) (fun _ _ _ h => h) (Or.inl ⟨by rfl, ?_⟩) (by assumption) ?_
              rotate_left
              · intro w hSw; (try dsimp only at hSw); go_simp <;> with_reducible rfl
              try simp only [Act.put, List.setIfInBounds_toArray, List.set_cons_zero, List.set_cons_succ]
              refine wpAnyH_take (i := 18) (oi := ⟨some 54, _, _, _, _, _⟩) (v := ?_) rfl (by kernel_rfl) (by kernel_rfl) (by kernel_rfl) (fun _ _ _ h => h) (Or.inl ⟨by rfl, ?_⟩) (by assumption) ?_
              rotate_left
              · intro w hSw; (try dsimp only at hSw); go_simp <;> with_reducible rfl
              try simp only [Act.put, List.setIfInBounds_toArray, List.set_cons_zero, List.set_cons_succ]
              refine wpAnyH_take (i := 19) (oi := ⟨some 55, _, _, _, _, _⟩) (v := ?_) rfl (by kernel_rfl) (by kernel_rfl) (by kernel_rfl) (fun _ _ _ h => h) (Or.inl ⟨by rfl, ?_⟩) (by assumption) ?_
              rotate_left
              · intro w hSw; (try dsimp only at hSw); go_simp <;> with_reducible rfl
              try simp only [Act.put, List.setIfInBounds_toArray, List.set_cons_zero, List.set_cons_succ]
              refine wpAnyH_take (i := 20) (oi := ⟨some 56, _, _, _, _, _⟩) (v := ?_) rfl (by kernel_rfl) (by kernel_rfl) (by kernel_rfl) (fun _ _ _ h => h) (Or.inl ⟨by rfl, ?_⟩) (by assumption) ?_
              rotate_left
              · intro w hSw; (try dsimp only at hSw); go_simp <;> with_reducible rfl
              try simp only [Act.put, List.setIfInBounds_toArray, List.set_cons_zero, List.set_cons_succ]
              refine wpAnyH_take (i := 21) (oi := ⟨some 57, _, _, _, _, _⟩) (v := ?_) rfl (by kernel_rfl) (by kernel_rfl) (by kernel_rfl) (fun _ _ _ h => h) (Or.inl ⟨by rfl, ?_⟩) (by assumption) ?_
              rotate_left
              · intro w hSw; (try dsimp only at hSw); go_simp <;> with_reducible rfl
              try simp only [Act.put, List.setIfInBounds_toArray, List.set_cons_zero, List.set_cons_succ]
              refine wpAnyH_take (i := 22) (oi := ⟨some 58, _, _, _, _, _⟩) (v := ?_) rfl (by kernel_rfl) (by kernel_rfl) (by kernel_rfl) (fun _ _ _ h => h) (Or.inl ⟨by rfl, ?_⟩) (by assumption) ?_
              rotate_left
              · intro w hSw; (try dsimp only at hSw); go_simp <;> with_reducible rfl
              try simp only [Act.put, List.setIfInBounds_toArray, List.set_cons_zero, List.set_cons_succ]
              refine wpAnyH_take (i := 23) (oi := ⟨some 59, _, _, _, _, _⟩) (v := ?_) rfl (by kernel_rfl) (by kernel_rfl) (by kernel_rfl) (fun _ _ _ h => h) (Or.inl ⟨by rfl, ?_⟩) (by assumption) ?_
              rotate_left
              · intro w hSw; (try dsimp only at hSw); go_simp <;> with_reducible rfl
              try simp only [Act.put, List.setIfInBounds_toArray, List.set_cons_zero, List.set_cons_succ]
              refine wpAnyH_take (i := 24) (oi := ⟨some 60, _, _, _, _, _⟩) (v := ?_) rfl (by kernel_rfl) (by kernel_rfl) (by kernel_rfl) (fun _ _ _ h => h) (Or.inl ⟨by rfl, ?_⟩) (by assumption) ?_
              rotate_left
              · intro w hSw; (try dsimp only at hSw); go_simp <;> with_reducible rfl
              try simp only [Act.put, List.setIfInBounds_toArray, List.set_cons_zero, List.set_cons_succ]
              refine wpAnyH_take (i := 25) (oi := ⟨some 61, _, _, _, _, _⟩) (v := ?_) rfl (by kernel_rfl) (by kernel_rfl) (by kernel_rfl) (fun _ _ _ h => h) (Or.inl ⟨by rfl, ?_⟩) (by assumption) ?_
              rotate_left
              · intro w hSw; (try dsimp only at hSw); go_simp <;> with_reducible rfl
              try simp only [Act.put, List.setIfInBounds_toArray, List.set_cons_zero, List.set_cons_succ]
              refine wpAnyH_take (i := 26) (oi := ⟨some 62, _, _, _, _, _⟩) (v := .bool true) rfl (by kernel_rfl) (by kernel_rfl) (by kernel_rfl) (fun _ _ _ h => h) (Or.inl ⟨by rfl, ?_⟩) (by assumption) ?_
              · intro w hSw; (try dsimp only at hSw); go_simp <;> (first | with_reducible rfl | rfl | rw [hv2])
              try simp only [Act.put, List.setIfInBounds_toArray, List.set_cons_zero, List.set_cons_succ]
              refine wpAnyH_take (i := 27) (oi := ⟨some 63, _, _, _, _, _⟩) (v := ?_) rfl (by kernel_rfl) (by kernel_rfl) (by kernel_rfl) (fun _ _ _ h => h) (Or.inl ⟨by rfl, ?_⟩) (by assumption) ?_
              rotate_left
              · intro w hSw; (try dsimp only at hSw); go_simp <;> with_reducible rfl
              try simp only [Act.put, List.setIfInBounds_toArray, List.set_cons_zero, List.set_cons_succ]
              refine wpAnyH_done (by kernel_rfl) ?_ _
              rotate_left
              all_goals
                have HBN := hid (bgo HB1.out b9x)
                go_wp2_with fail
                go_roundw
                case rel => exact ⟨k + 1, R + 1, by omega, by go_num, by go_num, HNX, HBN⟩
                case measure => simp [intOf]; omega
    · obtain rfl : k = LD := by omega
      have j1 : ¬ (k : Int) < (k : Int) := by omega
      have hR0 : R ≤ 0 := by
        have h := HR.out.eq
        rw [List.take_of_length_le (by rw [HLEN.out]; exact Nat.le_refl _)] at h
        have h2 := HF.out
        unfold Full at h2
        omega
      go_wp2_with fail
      go_ret
      exact ⟨rfl, bgo BN.out BR.out⟩
end

section
open Go.RowKit
structure LinRO (q : Bool) (N : Nat) (m : Mach) (ds : List Dg) : Prop where
  lin : LinO q (ds.filterMap (oact m)).length [] (ds.filterMap (oact m))
  call : ∀ (k : Nat) (d : Dg), ds[k]? = some d → ∃ c, callOf m d.t d.c = some c ∧ OkC c
  told : ∀ (k : Nat) (d : Dg) (e : Nat), ds[k]? = some d → d.e = some e → ∃ v, d.told = [v] ∧ (putD m d = true → v = 0 ∨ v = 1)
  open_ : ∀ (k : Nat) (d : Dg), ds[k]? = some d → d.e = none → d.told = []
  full : ∀ (k : Nat) (d : Dg) (e : Nat), ds[k]? = some d → d.e = some e → putD m d = true → d.told = [0] → Full N m ds k d.b e
  len : ds.length ≤ 9
theorem nodup_le9 : ∀ (l1 l2 : List Nat), l1.Nodup → (∀ x ∈ l1, x ∈ l2) → l1.length ≤ l2.length
  | [], _, _, _ => Nat.zero_le _
  | x :: l1, l2, hn, hs => by
    rw [List.nodup_cons] at hn
    have hx := hs x List.mem_cons_self
    have ih := nodup_le9 l1 (l2.erase x) hn.2 fun y hy => (List.mem_erase_of_ne (fun e => hn.1 (by rw [← e]; exact hy))).2 (hs y (List.mem_cons_of_mem _ hy))
    have h1 := List.length_erase_of_mem hx
    have h2 : 0 < l2.length := List.length_pos_of_mem hx
    rw [List.length_cons]; omega
theorem lino_res {q : Bool} {N : Nat} {P : VCall → Ph → Th → Prop} {H : List Lg} {s : List Int} {ws : List Int} {k1 k2 : List Op5} {off : Nat} {kinds : List Bool} {l : List Nat}
    (h : LI q N (omach ws k1 k2 off kinds 9) P l.length (play (omach ws k1 k2 off kinds 9) l).ths (doings (play (omach ws k1 k2 off kinds 9) l).evs) H s) : LinRO q N (omach ws k1 k2 off kinds 9) (doings (play (omach ws k1 k2 off kinds 9) l).evs) := by
  have D := play_di (omach ws k1 k2 off kinds 9) l
  refine ⟨lino_li h fun k d hk e he => ((D.time k d hk).2 e he).1, h.call, fun k d e hk he => ?_, fun k d hk he => D.quiet k d hk he, fun k d e hk he hp ht => ?_, ?_⟩
  · rcases h.cov k d e hk he with ⟨x, hx, rfl⟩ | ⟨h1, h2, _⟩
    · obtain ⟨d', c, a1, a2, a3, a4, a5, a6⟩ := h.ent x hx
      rw [hk] at a1; injection a1 with a1; subst a1
      have := a6 e he
      refine ⟨_, this, fun hp => ?_⟩
      have hx : x.put = true := by unfold putD at hp; rw [a2] at hp; rw [a3]; exact hp
      rw [hx]; exact .inr rfl
    · exact ⟨0, h2, fun _ => .inl rfl⟩
  · rcases h.cov k d e hk he with ⟨x, hx, rfl⟩ | ⟨h1, h2, h3⟩
    · obtain ⟨d', c, a1, a2, a3, a4, a5, a6⟩ := h.ent x hx
      rw [hk] at a1; injection a1 with a1; subst a1
      have h1 := a6 e he
      have hx : x.put = true := by unfold putD at hp; rw [a2] at hp; rw [a3]; exact hp
      rw [hx, ht] at h1
      have h1 : ([0] : List Int) = [1] := h1
      exact absurd h1 (by decide)
    · exact h3
  · have hpc : ∀ (k : Nat) (d : Dg), (doings (play (omach ws k1 k2 off kinds 9) l).evs)[k]? = some d → d.c < 3 ∧ d.t < 3 := fun k d hk => by
      have := play_c (m := omach ws k1 k2 off kinds 9) (N := 3) (fun calls h => by
        obtain ⟨t, ht, rfl⟩ := List.mem_map.1 h
        rw [oths_len off kinds 9 t (List.mem_range.1 ht)]; omega) l hk
      exact ⟨this.1, by have h2 := this.2; unfold omach at h2; simpa using h2⟩
    have hl := nodup_le9 ((doings (play (omach ws k1 k2 off kinds 9) l).evs).map fun d => 3 * d.t + d.c) (List.range 9) (by
      refine List.pairwise_iff_getElem.2 fun i j hi hj hij e => ?_
      rw [List.length_map] at hi hj
      rw [List.getElem_map, List.getElem_map] at e
      obtain ⟨d', hd'⟩ : ∃ d', (doings (play (omach ws k1 k2 off kinds 9) l).evs)[j]? = some d' := ⟨_, List.getElem?_eq_getElem hj⟩
      obtain ⟨d, hd⟩ : ∃ d, (doings (play (omach ws k1 k2 off kinds 9) l).evs)[i]? = some d := ⟨_, List.getElem?_eq_getElem hi⟩
      have g1 := (List.getElem_eq_iff hi).2 hd
      have g2 := (List.getElem_eq_iff hj).2 hd'
      rw [g1, g2] at e
      have h1 := hpc i d hd
      have h2 := hpc j d' hd'
      have := D.uniq i j d d' hd hd' (by omega) (by omega)
      omega) (fun x hx => by
      obtain ⟨d, hd, rfl⟩ := List.mem_map.1 hx
      obtain ⟨k, hk⟩ := List.getElem?_of_mem hd
      have := hpc k d hk
      rw [List.mem_range]; omega)
    rw [List.length_map, List.length_range] at hl
    exact hl
theorem ocallM {ws : List Int} {k1 k2 : List Op5} {off : Nat} {kinds : List Bool} {calls n nx : Nat} {c : VCall} (h : callOf (omach ws k1 k2 off kinds calls) n nx = some c) : n < 3 ∧ (oths off kinds calls n)[nx]? = some c := by
  obtain ⟨h1, h2, h3⟩ := ocallOf h
  exact ⟨h1, by rw [oths_at _ _ _ _ _ h1, if_pos h2, h3]⟩
theorem oact_some {m : Mach} {d : Dg} (h : refD m d = false) : oact m d = some ⟨d.b, d.e, putD m d, vOf m d, 0⟩ := by unfold oact; rw [if_neg (by rw [h]; simp)]
theorem oact_none {m : Mach} {d : Dg} (h : refD m d = true) : oact m d = none := by unfold oact; rw [if_pos h]
theorem oacts_some {m : Mach} {ds : List Dg} {k : Nat} {d : Dg} {a : LAct} (hk : ds[k]? = some d) (h : oact m d = some a) : (ds.take (k + 1)).filterMap (oact m) = (ds.take k).filterMap (oact m) ++ [a] := by
  rw [List.take_add_one, hk, List.filterMap_append, Option.toList_some, List.filterMap_cons_some h]; rfl
theorem oacts_none {m : Mach} {ds : List Dg} {k : Nat} {d : Dg} (hk : ds[k]? = some d) (h : oact m d = none) : (ds.take (k + 1)).filterMap (oact m) = (ds.take k).filterMap (oact m) := by
  rw [List.take_add_one, hk, List.filterMap_append, Option.toList_some, List.filterMap_cons_none h]; simp
theorem Ow.setA {W0 w8 : World} {v : Value} {l : List LAct} {ba : Nat} (h : Ow W0 w8 52 5 gA v l) (hb : ∀ b, v.ownBlock = some b → b ≠ ba) (hba : W0.heap.size ≤ ba) (j : Nat) (u : Value) : Ow W0 (w8.setCell ⟨ba, j, none⟩ u) 52 5 gA v l :=
  ⟨own_chg h.own ((Chg.refl (fun k => k = ba) w8).setCell (p := ⟨ba, j, none⟩) (fun _ => rfl) u) (fun k hk e => hb k hk e), h.below.setCell (p := ⟨ba, j, none⟩) hba u⟩
theorem sees6o {W w' : World} {p1 p2 p3 p4 p5 p6 : Addr} {u1 u2 u3 u4 u5 u6 : Value} (h : Below W.heap.size W w') (h1 : W.cell? p1 = some u1) (h2 : W.cell? p2 = some u2) (h3 : W.cell? p3 = some u3) (h4 : W.cell? p4 = some u4) (h5 : W.cell? p5 = some u5) (h6 : W.cell? p6 = some u6) :
    w'.cell? p1 = some u1 ∧ w'.cell? p2 = some u2 ∧ w'.cell? p3 = some u3 ∧ w'.cell? p4 = some u4 ∧ w'.cell? p5 = some u5 ∧ w'.cell? p6 = some u6 := ⟨cell_below h h1, cell_below h h2, cell_below h h3, cell_below h h4, cell_below h h5, cell_below h h6⟩
end
end Go.Proofs.YtbcjgnigdddlkaaDoor
