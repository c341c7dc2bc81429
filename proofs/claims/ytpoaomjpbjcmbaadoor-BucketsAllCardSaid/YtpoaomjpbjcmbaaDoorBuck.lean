/-
  roll.floor, roll.Buckets: their walks.
-/
import Derived.Test.YtpoaomjpbjcmbaaDoorRollB
import Derived.Test.YtpoaomjpbjcmbaaDoorRws
import Derived.Deep.RegionWith
namespace Go.Proofs.YtpoaomjpbjcmbaaDoor
open Go.RowKit
set_option linter.unusedVariables false
def flr (x w : Int) : Int := x - x % w
theorem flr_bd (x w : Int) (hw : 0 < w) : flr x w ≤ x ∧ x < flr x w + w := by
  have h1 := Int.emod_nonneg x (show w ≠ 0 by omega)
  have h2 := Int.emod_lt_of_pos x hw
  unfold flr; omega
theorem flr_mod (x w : Int) (hw : 0 < w) : (flr x w) % w = 0 := by
  unfold flr
  rw [Int.sub_emod, Int.emod_emod, Int.sub_self, Int.zero_emod]
theorem flr_mono (x y w : Int) (hw : 0 < w) (h : x ≤ y) : flr x w ≤ flr y w := by
  have e1 := Int.mul_ediv_add_emod x w
  have e2 := Int.mul_ediv_add_emod y w
  have e3 := Int.ediv_le_ediv hw h
  have e4 := Int.mul_le_mul_of_nonneg_left e3 (show 0 ≤ w by omega)
  unfold flr; omega
theorem emod_tmod (n w : Int) (hw : 0 < w) : n % w = if Int.tmod n w < 0 then Int.tmod n w + w else Int.tmod n w := by
  have h1 := Int.mul_tdiv_add_tmod n w
  have h2 := Int.mul_ediv_add_emod n w
  have h3 := Int.emod_nonneg n (show w ≠ 0 by omega)
  have h4 := Int.emod_lt_of_pos n hw
  have h5 := Int.tmod_lt_of_pos n hw
  have h6 : -w < Int.tmod n w := by
    rcases Int.le_total 0 n with h | h
    · have := Int.tmod_nonneg w h; omega
    · have h7 := Int.tmod_nonneg w (show 0 ≤ -n by omega)
      have h8 := Int.tmod_lt_of_pos (-n) hw
      rw [Int.neg_tmod] at h8; omega
  generalize Int.tmod n w = r at *
  generalize Int.tdiv n w = q at *
  generalize n / w = e at *
  generalize n % w = f at *
  have h9 : w * (e - q) = r - f := by rw [Int.mul_sub]; omega
  split
  · rename_i hr
    have : e - q = -1 := by
      rcases Int.lt_or_le (e - q) (-1) with h | h
      · have := Int.mul_le_mul_of_nonneg_left (show e - q ≤ -2 by omega) (show 0 ≤ w by omega); omega
      · rcases Int.lt_or_le (-1) (e - q) with h' | h'
        · have := Int.mul_le_mul_of_nonneg_left (show 0 ≤ e - q by omega) (show 0 ≤ w by omega); omega
        · omega
    rw [this] at h9; omega
  · rename_i hr
    have : e - q = 0 := by
      rcases Int.lt_or_le (e - q) 0 with h | h
      · have := Int.mul_le_mul_of_nonneg_left (show e - q ≤ -1 by omega) (show 0 ≤ w by omega); omega
      · rcases Int.lt_or_le 0 (e - q) with h' | h'
        · have := Int.mul_le_mul_of_nonneg_left (show 1 ≤ e - q by omega) (show 0 ≤ w by omega); omega
        · omega
    rw [this] at h9; omega
theorem roll_floor (n d : Int) (w : World) (hn : -36028797018963968 ≤ n ∧ n ≤ 36028797018963968) (hd : 1 ≤ d ∧ d ≤ 1048576) :
    Calls Tryd.prog 50 #[.int .i64 n, .int .i64 d] w fun e w' => e = .returned (.int .i64 (flr n d)) ∧ w = w' := by
  have hem := emod_tmod n d (by omega)
  have h3 := Int.emod_nonneg n (show d ≠ 0 by omega)
  have h4 := Int.emod_lt_of_pos n (show 0 < d by omega)
  obtain ⟨r, hr⟩ : ∃ r, Int.tmod n d = r := ⟨_, rfl⟩
  rw [hr] at hem
  have hdz : (d == 0) = false := beqF (by omega)
  have hdz2 : ¬ d = 0 := by omega
  by_cases hneg : r < 0
  · rw [if_pos hneg] at hem
    have e1 : wrap64 r = r := IntWalk.wrap64_in _ ⟨by omega, by omega⟩
    have e2 : IntKind.i64.wrap r = r := IntWalk.i64_in _ (by omega)
    have e3 : wrap64 (r + d) = r + d := IntWalk.wrap64_in _ ⟨by omega, by omega⟩
    have e4 : IntKind.i64.wrap (r + d) = r + d := IntWalk.i64_in _ (by omega)
    have e5 : wrap64 (n - (r + d)) = n - (r + d) := IntWalk.wrap64_in _ ⟨by omega, by omega⟩
    have e6 : IntKind.i64.wrap (n - (r + d)) = n - (r + d) := IntWalk.i64_in _ (by omega)
    have HE := hid (show flr n d = n - (r + d) by unfold flr; rw [hem])
    clear hem h3 h4 hn hd
    go_enter Tryd.func50, Tryd.ntmps50
    go_wp2
    go_ret
    rw [HE.out]
    exact ⟨rfl, rfl⟩
  · rw [if_neg hneg] at hem
    have e1 : wrap64 r = r := IntWalk.wrap64_in _ ⟨by omega, by omega⟩
    have e2 : IntKind.i64.wrap r = r := IntWalk.i64_in _ (by omega)
    have e5 : wrap64 (n - r) = n - r := IntWalk.wrap64_in _ ⟨by omega, by omega⟩
    have e6 : IntKind.i64.wrap (n - r) = n - r := IntWalk.i64_in _ (by omega)
    have HE := hid (show flr n d = n - r by unfold flr; rw [hem])
    clear hem h3 h4 hn hd
    go_enter Tryd.func50, Tryd.ntmps50
    go_wp2
    go_ret
    rw [HE.out]
    exact ⟨rfl, rfl⟩
/-! ### groups -/
abbrev Grp := Int × List (Int × Int)
def gAdd (w : Int) (G : List Grp) (x : Int × Int) : List Grp :=
  match G.getLast? with
  | some g => if g.1 = flr x.1 w then G.dropLast ++ [(g.1, g.2 ++ [x])] else G ++ [(flr x.1 w, [x])]
  | none => G ++ [(flr x.1 w, [x])]
def grp (w : Int) (l : List (Int × Int)) : List Grp := l.foldl (gAdd w) []
theorem grp_snoc (w : Int) (l : List (Int × Int)) (x : Int × Int) : grp w (l ++ [x]) = gAdd w (grp w l) x := by unfold grp; rw [List.foldl_append]; rfl
def gBeg (g : Grp) : Int × Int := (g.1, (g.2.getD 0 (0, 0)).2)
def gRoll (g : Grp) : R4 := rAll (vals g.2)
theorem gAdd_new (w : Int) (G : List Grp) (x : Int × Int) (h : G = [] ∨ ∃ G0 g, G = G0 ++ [g] ∧ g.1 ≠ flr x.1 w) : gAdd w G x = G ++ [(flr x.1 w, [x])] := by
  unfold gAdd
  rcases h with rfl | ⟨G0, g, rfl, hne⟩
  · rfl
  · rw [List.getLast?_append]; simp only [List.getLast?_singleton, Option.some_or]; rw [if_neg hne]
theorem gAdd_old (w : Int) (G0 : List Grp) (g : Grp) (x : Int × Int) (h : g.1 = flr x.1 w) : gAdd w (G0 ++ [g]) x = G0 ++ [(g.1, g.2 ++ [x])] := by
  unfold gAdd
  rw [List.getLast?_append]; simp only [List.getLast?_singleton, Option.some_or]; rw [if_pos h, List.dropLast_concat]
structure GrpIn (w : Int) (G : List Grp) (l : List (Int × Int)) : Prop where
  cat : G.flatMap (·.2) = l
  ne : ∀ g ∈ G, g.2 ≠ []
  at_ : ∀ g ∈ G, ∀ x ∈ g.2, flr x.1 w = g.1
  up : ∀ (k : Nat) (g h : Grp), G[k]? = some g → G[k + 1]? = some h → g.1 < h.1
theorem grp_len (w : Int) (G : List Grp) (l : List (Int × Int)) (h : GrpIn w G l) : G.length ≤ l.length := by
  have H : ∀ G : List Grp, (∀ g ∈ G, g.2 ≠ []) → G.length ≤ (G.flatMap (·.2)).length := by
    intro G
    induction G with
    | nil => intro _; exact Nat.le_refl _
    | cons g G ih =>
      intro hne
      have h1 := ih fun g hg => hne g (List.mem_cons_of_mem _ hg)
      have h2 := List.length_pos_iff.2 (hne g List.mem_cons_self)
      rw [List.flatMap_cons, List.length_append, List.length_cons]; omega
  rw [← h.cat]; exact H G h.ne
theorem grp_in (w : Int) (hw : 0 < w) (l : List (Int × Int)) (hl : ∀ (k : Nat) (x y : Int × Int), l[k]? = some x → l[k + 1]? = some y → x.1 < y.1) : GrpIn w (grp w l) l := by
  induction l using snoc_ind with
  | h0 => exact ⟨rfl, by simp [grp], by simp [grp], by simp [grp]⟩
  | h1 l x ih =>
    have hl2 : ∀ (k : Nat) (x y : Int × Int), l[k]? = some x → l[k + 1]? = some y → x.1 < y.1 := fun k a b ha hb => by
      have h1 := (List.getElem?_eq_some_iff.1 ha).1
      have h2 := (List.getElem?_eq_some_iff.1 hb).1
      exact hl k a b (by rw [List.getElem?_append_left h1]; exact ha) (by rw [List.getElem?_append_left h2]; exact hb)
    obtain ⟨i1, i2, i3, i4⟩ := ih hl2
    rw [grp_snoc]
    generalize grp w l = G at *
    rcases List.eq_nil_or_concat G with rfl | ⟨G0, g, rfl⟩
    · rw [gAdd_new w [] x (.inl rfl)]
      have hl0 : l = [] := i1.symm
      subst hl0
      refine ⟨rfl, by simp, fun a ha y hy => ?_, fun k a b ha hb => ?_⟩
      · simp at ha; subst ha; simp at hy; subst hy; rfl
      · have := (List.getElem?_eq_some_iff.1 hb).1; simp at this
    · rw [List.concat_eq_append] at *
      by_cases hg : g.1 = flr x.1 w
      · rw [gAdd_old w G0 g x hg]
        refine ⟨?_, fun a ha => ?_, fun a ha y hy => ?_, fun k a b ha hb => ?_⟩
        · rw [← i1]; simp
        · rcases List.mem_append.1 ha with h | h
          · exact i2 a (List.mem_append_left _ h)
          · simp at h; subst h; simp
        · rcases List.mem_append.1 ha with h | h
          · exact i3 a (List.mem_append_left _ h) y hy
          · simp at h; subst h
            simp only at hy ⊢
            rcases List.mem_append.1 hy with h | h
            · exact i3 g (List.mem_append_right _ (by simp)) y h
            · simp at h; subst h; exact hg.symm
        · have e : ∀ (j : Nat) (u : Grp), (G0 ++ [(g.1, g.2 ++ [x])])[j]? = some u → ∃ v, (G0 ++ [g])[j]? = some v ∧ v.1 = u.1 := by
            intro j u hu
            by_cases hj : j < G0.length
            · rw [List.getElem?_append_left hj] at hu
              exact ⟨u, by rw [List.getElem?_append_left hj]; exact hu, rfl⟩
            · have h1 := (List.getElem?_eq_some_iff.1 hu).1
              simp at h1
              obtain rfl : j = G0.length := by omega
              simp at hu; subst hu
              exact ⟨g, by simp, rfl⟩
          obtain ⟨a', h1, h2⟩ := e k a ha
          obtain ⟨b', h3, h4⟩ := e (k + 1) b hb
          have := i4 k a' b' h1 h3
          omega
      · have hnew : g.1 < flr x.1 w := by
          have h1 := i2 g (List.mem_append_right _ (by simp))
          obtain ⟨ys, y, hys⟩ : ∃ ys y, g.2 = ys ++ [y] := by
            rcases List.eq_nil_or_concat g.2 with h | ⟨ys, y, h⟩
            · exact absurd h h1
            · exact ⟨ys, y, by rw [h, List.concat_eq_append]⟩
          have h2 := i3 g (List.mem_append_right _ (by simp)) y (by rw [hys]; simp)
          have h3 : y.1 < x.1 := by
            have e1 : l = (G0.flatMap (·.2) ++ ys) ++ [y] := by rw [← i1]; simp [hys]
            have hlen : l.length = (G0.flatMap (·.2) ++ ys).length + 1 := by rw [e1, List.length_append]; rfl
            refine hl (G0.flatMap (·.2) ++ ys).length y x ?_ ?_
            · rw [e1, List.append_assoc, List.getElem?_append_right (Nat.le_refl _)]; simp
            · rw [← hlen, List.getElem?_append_right (Nat.le_refl _)]; simp
          have := flr_mono y.1 x.1 w hw (by omega)
          omega
        rw [gAdd_new w _ x (.inr ⟨G0, g, rfl, hg⟩)]
        refine ⟨?_, fun a ha => ?_, fun a ha y hy => ?_, fun k a b ha hb => ?_⟩
        · rw [List.flatMap_append, i1]; simp
        · rcases List.mem_append.1 ha with h | h
          · exact i2 a h
          · simp at h; subst h; simp
        · rcases List.mem_append.1 ha with h | h
          · exact i3 a h y hy
          · simp at h; subst h
            simp only at hy ⊢
            simp at hy; subst hy; rfl
        · by_cases hk : k + 1 < (G0 ++ [g]).length
          · rw [List.getElem?_append_left hk] at hb
            rw [List.getElem?_append_left (by omega)] at ha
            exact i4 k a b ha hb
          · have h1 := (List.getElem?_eq_some_iff.1 hb).1
            simp at h1 hk
            obtain rfl : k = G0.length := by omega
            simp at ha hb
            subst hb
            rw [← ha]
            exact hnew
abbrev gR : R4 → List Value := fun r => [.int .i64 r.c, .int .i64 r.mn, .int .i64 r.mx, .int .i64 r.sm]
theorem gR_one (x : R4) : ∀ u ∈ gR x, u.oneCell' = true := by intro u hu; simp at hu; rcases hu with rfl | rfl | rfl | rfl <;> rfl
theorem elmR4 : Elm Tryd.prog 56 35 4 32 := elm_of (z := .agg #[.int .i64 0, .int .i64 0, .int .i64 0, .int .i64 0]) Tryd.underlying56 (by kernel_rfl) rfl (by decide)
theorem Ow.set4 {w0 w : World} {e : TypeId} {b n c i : Nat} {l : List R4} {x : R4} (y : R4) (h : Ow w0 w e 4 gR (.slice (some ⟨b, 0, none⟩) n c) l) (hi : l[i]? = some x) :
    Ow w0 ((((w.setCell ⟨b, i * 4, none⟩ (.int .i64 y.c)).setCell ⟨b, i * 4 + 1, none⟩ (.int .i64 y.mn)).setCell ⟨b, i * 4 + 2, none⟩ (.int .i64 y.mx)).setCell ⟨b, i * 4 + 3, none⟩ (.int .i64 y.sm)) e 4 gR (.slice (some ⟨b, 0, none⟩) n c) (l.set i y) := by
  have hl := (List.getElem?_eq_some_iff.1 hi).1
  have h1 := Ow.setG (g := gR) (fun _ => rfl) (j := 0) (u := .int .i64 y.c) (y := ⟨y.c, x.mn, x.mx, x.sm⟩) h hi (by decide) rfl
  have h2 := Ow.setG (g := gR) (fun _ => rfl) (i := i) (j := 1) (u := .int .i64 y.mn) (x := ⟨y.c, x.mn, x.mx, x.sm⟩) (y := ⟨y.c, y.mn, x.mx, x.sm⟩) h1 (by rw [List.getElem?_set_self hl]) (by decide) rfl
  have h3 := Ow.setG (g := gR) (fun _ => rfl) (i := i) (j := 2) (u := .int .i64 y.mx) (x := ⟨y.c, y.mn, x.mx, x.sm⟩) (y := ⟨y.c, y.mn, y.mx, x.sm⟩) h2 (by rw [List.getElem?_set_self (by rw [List.length_set]; exact hl)]) (by decide) rfl
  have h4 := Ow.setG (g := gR) (fun _ => rfl) (i := i) (j := 3) (u := .int .i64 y.sm) (x := ⟨y.c, y.mn, y.mx, x.sm⟩) (y := y) h3 (by rw [List.getElem?_set_self (by rw [List.length_set, List.length_set]; exact hl)]) (by decide) rfl
  rw [List.set_set, List.set_set, List.set_set] at h4
  exact h4
theorem Ow.chgB {α : Type} {w0 w w' : World} {e sz : Nat} {g : α → List Value} {v : Value} {l : List α} {M : Nat → Prop} (h : Ow w0 w e sz g v l) (hc : Chg M w w') (hM : ∀ k, v.ownBlock = some k → ¬ M k) (hB : ∀ k, M k → w0.heap.size ≤ k) : Ow w0 w' e sz g v l :=
  ⟨own_chg h.own hc hM, h.below.trans (hc.below hB h.below.size)⟩
theorem map_last {α β : Type} (f : α → β) (G : List α) (a : α) : (G ++ [a]).map f = G.map f ++ [f a] := by simp
theorem set_last {α : Type} (l : List α) (x y : α) : (l ++ [x]).set l.length y = l ++ [y] := by simp
set_option maxRecDepth 100000 in
set_option maxHeartbeats 2000000 in
theorem roll_Buckets (A : Option Addr) (n c : Nat) (l : List (Int × Int)) (wd : Int) (w : World) (hn : n ≤ 100) (h : Sl w 2 A n (l.flatMap gP)) (hl : SmpsIn l) (hwd : 1 ≤ wd ∧ wd ≤ 1048576) (ht : ZTab w) :
    Calls Tryd.prog 28 #[.slice A n c, .int .i64 wd] w fun e w' => ∃ v1 v2, e = .returned (.tuple #[v1, v2, .int .i64 0]) ∧ Ow w w' 26 2 gP v1 ((grp wd l).map gBeg) ∧ Ow w w' 35 4 gR v2 ((grp wd l).map gRoll) := by
  have H := hid h; have HI := hid hl; have HT := hid ht
  have HL := hid (show l.length = n by have := h.1; rw [flatMap_len gP 2 (fun _ => rfl)] at this; omega)
  clear h hl ht
  obtain ⟨hwd1, hwd2⟩ := hwd
  have i1 : ¬ wd < 1 := by omega
  have i2 : ¬ (1048576 : Int) < wd := by omega
  go_enter Tryd.func28, Tryd.ntmps28
  go_wp2_with fail
  refine (ck_encode A n c l w (by omega) H.out HI.out.ok HT.out).mono ?_
  rintro e w2 ⟨v2, rfl, ho2⟩
  have HB2 := hid ho2.below
  clear ho2
  go_wp2_with fail
  go_loopw [9, 10, 32] (fun bs rs i wr => ∃ (k : Nat) (G : List Grp), k ≤ n ∧ i = .int .i64 k ∧ Hid (grp wd (l.take k) = G) ∧ G.length ≤ k ∧ Ow w wr 26 2 gP bs (G.map gBeg) ∧ Ow w wr 35 4 gR rs (G.map gRoll)) (fun _ _ i _ => n - (intOf i).toNat)
  case atStart => exact ⟨0, [], Nat.zero_le _, rfl, hid rfl, Nat.le_refl _, Ow.nil' HB2.out _ _ _, Ow.nil' HB2.out _ _ _⟩
  case round =>
    obtain ⟨k, G, hk, rfl, HG, hGk, hob, hor⟩ := hrel
    have HOB := hid hob; have HOR := hid hor; clear hob hor
    obtain ⟨A9, c9, rfl, hb1, hb2⟩ := HOB.out.form
    obtain ⟨A10, c10, rfl, hr1, hr2⟩ := HOR.out.form
    rw [List.length_map] at HOB hb1 HOR hr1 ⊢
    rw [List.length_map] at ⊢
    by_cases hlt : k < n
    · obtain ⟨ad, x, rfl, hxk, c0, c1⟩ := (H.out.below HOB.out.below).atS hlt
      have hxb := HI.out.bd x (List.mem_of_getElem? hxk)
      have HG2 := hid (show grp wd (l.take (k + 1)) = gAdd wd G x by rw [take_next hxk, grp_snoc, HG.out])
      have hcb := World.block_lt_of_cell? _ _ c0
      obtain ⟨xt, xv⟩ := x
      simp only at c0 c1 hxb
      obtain ⟨T, hT⟩ : ∃ T, flr xt wd = T := ⟨_, rfl⟩
      have HTT := hid hT
      have HFL := fun V => hid (roll_floor xt wd V (by omega) ⟨hwd1, hwd2⟩)
      rw [hT] at HFL
      clear hT hxk
      have j1 : (k : Int) < (n : Int) := by omega
      go_wp2_with fail
      refine (HFL _).out.mono ?_
      rintro e w3 ⟨rfl, rfl⟩
      have HOB3 := hid (HOB.out.alloc (.cells #[.int .i64 xt, .int .i64 xv] 26))
      have HOR3 := hid (HOR.out.alloc (.cells #[.int .i64 xt, .int .i64 xv] 26))
      have HSB := hid (Blk.new wr 26 #[.int .i64 xt, .int .i64 xv])
      obtain ⟨q, hq⟩ : ∃ q, G.length = q := ⟨_, rfl⟩
      rw [hq] at HOB HOB3 HOR3 hb1 hr1 hGk
      rw [hq]
      have HLT := hid (show ∀ k, (Value.slice A9 q c9).ownBlock = some k → k ≠ wr.heap.size from fun k hk => by have := own_lt HOB.out.own hk; omega)
      obtain ⟨gs, hgs⟩ : ∃ gs, wr.heap.size = gs := ⟨_, rfl⟩
      rw [hgs] at HSB HLT
      rw [hgs]
      clear c0 c1 hcb hgs HOB HOR HFL
      generalize wr.alloc (.cells #[.int .i64 xt, .int .i64 xv] 26) = w3 at *
      have s0 : w3.cell? ⟨gs, 0, none⟩ = some (.int .i64 xt) := HSB.out.cell 0
      have s1 : w3.cell? ⟨gs, 1, none⟩ = some (.int .i64 xv) := HSB.out.cell 1
      unfold maxLen at hb2 hr2
      rcases List.eq_nil_or_concat G with hG0 | ⟨G0, g, hG0⟩
      · have HGN := hid (HG2.out.trans (gAdd_new wd G (xt, xv) (.inl hG0)))
        rw [HTT.out] at HGN
        have hq0 : q = 0 := by rw [← hq, hG0]; rfl
        have eq0 : ((q : Int) == 0) = true := beqT (by omega)
        have HQ0 := hid hq0; have HG0 := hid hG0
        clear hq0 hG0
        obtain ⟨y, hy⟩ : ∃ y, G.map gBeg ++ [(T, xv)] = y := ⟨_, rfl⟩
        have hyl : y.length = q + 1 := by rw [← hy, List.length_append, List.length_map, hq]; rfl
        obtain ⟨z, hz⟩ : ∃ z, G.map gRoll ++ [r0] = z := ⟨_, rfl⟩
        have hzl : z.length = q + 1 := by rw [← hz, List.length_append, List.length_map, hq]; rfl
        have HY := hid hy; have HZ := hid hz; have HYL := hid hyl; have HZL := hid hzl
        have Y1 := hid (show y.length ≤ maxLen by rw [hyl]; unfold maxLen; omega)
        have Y2 := hid (show y.length * 16 ≤ 140737488355328 by rw [hyl]; omega)
        have Z1 := hid (show z.length ≤ maxLen by rw [hzl]; unfold maxLen; omega)
        have Z2 := hid (show z.length * 32 ≤ 140737488355328 by rw [hzl]; omega)
        have Z3 := hid (show 0 < z.length by rw [hzl]; omega)
        clear hy hz hyl
        have m1 : wrap64 ((q : Int) + 1 - 1) = (q : Int) := by rw [show (q : Int) + 1 - 1 = (q : Int) by omega]; exact IntWalk.wrap64_in _ ⟨by omega, by omega⟩
        have m3 : (q : Int) < (q : Int) + 1 := by omega
        have HNB := hid (show ∀ k, (Value.slice A9 q c9).ownBlock = some k → k ≠ gs from fun k hk => HLT.out k hk)
        have HOB3a := hid (HOB3.out.alloc (.cells #[.int .i64 T, .int .i64 xv] 26))
        have HOR3a := hid (HOR3.out.alloc (.cells #[.int .i64 T, .int .i64 xv] 26))
        have HSB3a := hid (HSB.out.alloc (.cells #[.int .i64 T, .int .i64 xv] 26))
        have HNE3 := hid (fun k hk => own_ne_own HOR3a.out.own HOB3a.out.own (by decide) k hk)
        have HNG3 := hid (show ¬ (Value.slice A9 q c9).ownBlock = some gs from fun e => HNB.out _ e rfl)
        go_wp2_with (first
          | (at_builtin; refine wpList_appY elmP gP_one rfl (.tmp 54) (.tmp 59) rfl (.slice A9 q c9) (G.map gBeg) rfl HOB3a.out [(T, xv)] y HY rfl (Sl.fresh _ #[.int .i64 T, .int .i64 xv] 26 2 1 rfl) rfl Y1.out Y2.out ?_; intro A4 c4 w4 hc4 hc5 HN1 HG1 _; have HOR4 := hid (HOR3a.out.grown HG1.out HNE3.out HN1.out.below); have HSB4 := hid ((Chg.of_grown HG1.out (fun k h => h) : Chg (fun k => (Value.slice A9 q c9).ownBlock = some k) _ _).blk HSB3a.out HNG3.out))
          | (at_builtin; refine wpList_appY elmR4 gR_one rfl (.tmp 61) (.tmp 63) rfl (.slice A10 q c10) (G.map gRoll) rfl (HOR4.out.alloc _) [r0] z HZ rfl (Sl.fresh _ #[.int .i64 0, .int .i64 0, .int .i64 0, .int .i64 0] 35 4 1 rfl) rfl Z1.out Z2.out ?_; intro A5 c5 w5 hc6 hc7 HN2 HG2' _; obtain ⟨b5, rfl⟩ := HN2.out.ad Z3.out))
        have HOR4a := hid (HOR4.out.alloc (.cells #[.int .i64 0, .int .i64 0, .int .i64 0, .int .i64 0] 35))
        have HOB4a := hid (HN1.out.alloc (.cells #[.int .i64 0, .int .i64 0, .int .i64 0, .int .i64 0] 35))
        have HSB4a := hid (HSB4.out.alloc (.cells #[.int .i64 0, .int .i64 0, .int .i64 0, .int .i64 0] 35))
        have HOB5 := hid (HOB4a.out.grown HG2'.out (fun k hk => own_ne_own HOB4a.out.own HOR4a.out.own (by decide) k hk) HN2.out.below)
        have HSB5 := hid ((Chg.of_grown HG2'.out (fun k h => h) : Chg (fun k => (Value.slice A10 q c10).ownBlock = some k) _ _).blk HSB4a.out (own_ne_blk HOR4a.out.own HSB4a.out (by decide)))
        have HOR5 := HN2
        rw [HZL.out] at HOR5 hc6
        have HRK : Hid ((r0).ok) := hid ⟨by decide, by decide, by decide, by decide⟩
        have HZQ := hid (show z[q]? = some r0 by rw [← HZ.out, List.getElem?_append_right (by rw [List.length_map, hq]; exact Nat.le_refl _), List.length_map, hq, Nat.sub_self]; rfl)
        have HFB := hid (show (grp wd (l.take (k + 1))).map gBeg = y by rw [HGN.out, List.map_append, ← HY.out]; rfl)
        have HFR := hid (show (grp wd (l.take (k + 1))).map gRoll = z.set q (rWith r0 xv) by
          rw [HGN.out, List.map_append, ← HZ.out, show q = (G.map gRoll).length by rw [List.length_map, hq], set_last]; rfl)
        have HGL := hid (show (grp wd (l.take (k + 1))).length = q + 1 by rw [HGN.out, List.length_append, hq]; rfl)
        clear HN1 HN2 HOR4 HOB4a HOR4a HSB4 HSB4a HG1 HG2' HOB3 HOR3 HSB HOB3a HOR3a HSB3a HNE3 HNG3 HNB HLT s0 s1 hq HY HZ Y1 Y2 Z1 Z2 Z3 hb1 hr1 HG2 HGN HTT

        obtain ⟨rr, hrr⟩ : ∃ r, rWith r0 xv = r := ⟨_, rfl⟩
        have HC := fun V => hid (roll_with r0 xv V HRK.out (by omega) (by omega))
        rw [hrr] at HC HFR
        clear hrr
        have s0 : w5.cell? ⟨gs, 0, none⟩ = some (.int .i64 xt) := HSB5.out.cell 0
        have s1 : w5.cell? ⟨gs, 1, none⟩ = some (.int .i64 xv) := HSB5.out.cell 1
        have z0 : w5.cell? ⟨b5, q * 4, none⟩ = some (.int .i64 r0.c) := (HOR5.out.cellG (g := gR) (j := 0) (fun _ => rfl) HZQ.out rfl).1
        have z1 : w5.cell? ⟨b5, q * 4 + 1, none⟩ = some (.int .i64 r0.mn) := (HOR5.out.cellG (g := gR) (j := 1) (fun _ => rfl) HZQ.out rfl).1
        have z2 : w5.cell? ⟨b5, q * 4 + 2, none⟩ = some (.int .i64 r0.mx) := (HOR5.out.cellG (g := gR) (j := 2) (fun _ => rfl) HZQ.out rfl).1
        have z3 : w5.cell? ⟨b5, q * 4 + 3, none⟩ = some (.int .i64 r0.sm) := (HOR5.out.cellG (g := gR) (j := 3) (fun _ => rfl) HZQ.out rfl).1
        have HOR5d := hid HOR5.out.drew
        obtain ⟨rc, rn, rx, rs⟩ := rr
        go_wp2_with fail
        go_region_with (refine (HC _).out.mono ?_; rintro e w9 ⟨rfl, hb9⟩; have HR9 := hid (HOR5d.out.step hb9); have y0 : w9.cell? ⟨b5, q * 4, none⟩ = some (.int .i64 r0.c) := (HR9.out.cellG (g := gR) (j := 0) (fun _ => rfl) HZQ.out rfl).1; have y1 : w9.cell? ⟨b5, q * 4 + 1, none⟩ = some (.int .i64 r0.mn) := (HR9.out.cellG (g := gR) (j := 1) (fun _ => rfl) HZQ.out rfl).1; have y2 : w9.cell? ⟨b5, q * 4 + 2, none⟩ = some (.int .i64 r0.mx) := (HR9.out.cellG (g := gR) (j := 2) (fun _ => rfl) HZQ.out rfl).1; have y3 : w9.cell? ⟨b5, q * 4 + 3, none⟩ = some (.int .i64 r0.sm) := (HR9.out.cellG (g := gR) (j := 3) (fun _ => rfl) HZQ.out rfl).1; have f0 : w9.frozen? ⟨b5, q * 4, none⟩ = false := (HR9.out.cellG (g := gR) (j := 0) (fun _ => rfl) HZQ.out rfl).2; have f1 : w9.frozen? ⟨b5, q * 4 + 1, none⟩ = false := (HR9.out.cellG (g := gR) (j := 1) (fun _ => rfl) HZQ.out rfl).2; have f2 : w9.frozen? ⟨b5, q * 4 + 2, none⟩ = false := (HR9.out.cellG (g := gR) (j := 2) (fun _ => rfl) HZQ.out rfl).2; have f3 : w9.frozen? ⟨b5, q * 4 + 3, none⟩ = false := (HR9.out.cellG (g := gR) (j := 3) (fun _ => rfl) HZQ.out rfl).2; have hlt9 : b5 < w9.heap.size := World.block_lt_of_cell? w9 _ y0)
        all_goals
          have HB9 := hid (HOB5.out.drew.step hb9)
          have HR10 := hid (Ow.set4 ⟨rc, rn, rx, rs⟩ HR9.out HZQ.out)
          rw [← HFR.out] at HR10
          have hzl0 := (List.getElem?_eq_some_iff.1 HZQ.out).1
          obtain ⟨b', cur, hA, _, hb, hk9, _⟩ := HR9.out.rowG (by omega)
          injection hA with hA; injection hA with hA; subst hA
          have hchg := ((((Chg.refl (fun k => k = b5) w9).setCell (p := ⟨b5, q * 4, none⟩) (fun _ => rfl) (.int .i64 rc)).setCell (p := ⟨b5, q * 4 + 1, none⟩) (fun _ => rfl) (.int .i64 rn)).setCell (p := ⟨b5, q * 4 + 2, none⟩) (fun _ => rfl) (.int .i64 rx)).setCell (p := ⟨b5, q * 4 + 3, none⟩) (fun _ => rfl) (.int .i64 rs)
          have HB10 := hid (HB9.out.chgB hchg (fun k hk e => own_ne_blk HB9.out.own hk9 (by decide) (by rw [hk, e])) (fun k e => by rw [e]; exact hb))
          clear s0 s1 z0 z1 z2 z3 y0 y1 y2 y3 f0 f1 f2 f3 hk9 hchg hzl0 hb
          generalize ((((w9.setCell ⟨b5, q * 4, none⟩ (.int .i64 rc)).setCell ⟨b5, q * 4 + 1, none⟩ (.int .i64 rn)).setCell ⟨b5, q * 4 + 2, none⟩ (.int .i64 rx)).setCell ⟨b5, q * 4 + 3, none⟩ (.int .i64 rs)) = w10 at *
          go_wp2
          go_roundw
          case rel => exact ⟨k + 1, grp wd (l.take (k + 1)), by omega, by go_num, hid rfl, by rw [HGL.out]; omega, (by rw [HFB.out]; exact HB10.out), HR10.out⟩
          case measure => simp [intOf]; omega
      · rw [List.concat_eq_append] at hG0
        have hq1 : q = G0.length + 1 := by rw [← hq, hG0]; simp
        have hgm : g ∈ G := by rw [hG0]; simp
        have hbeg : (G.map gBeg)[q - 1]? = some (gBeg g) := by rw [hG0, hq1]; simp
        have hrol : (G.map gRoll)[q - 1]? = some (gRoll g) := by rw [hG0, hq1]; simp
        have nq1 := beqF (show (q : Int) ≠ 0 by omega)
        have p1 : wrap64 ((q : Int) - 1) = (q : Int) - 1 := IntWalk.wrap64_in _ ⟨by omega, by omega⟩
        have p2 : (0 : Int) ≤ (q : Int) - 1 := by omega
        have p3 : (q : Int) - 1 < (q : Int) := by omega
        have p4 : ((q : Int) - 1).toNat = q - 1 := by omega
        have p5 : q - 1 < q := by omega
        obtain ⟨b9, rfl⟩ := HOB3.out.ad (by rw [List.length_map, hq]; omega)
        have t0 : w3.cell? ⟨b9, (q - 1) * 2, none⟩ = some (.int .i64 g.1) := (HOB3.out.cellG (g := gP) (j := 0) (fun _ => rfl) hbeg rfl).1
        by_cases hgT : g.1 = T
        · have HGN := hid (show grp wd (l.take (k + 1)) = G0 ++ [(g.1, g.2 ++ [(xt, xv)])] by rw [HG2.out, hG0]; exact gAdd_old wd G0 g (xt, xv) (by rw [HTT.out]; exact hgT))
          have nT : (g.1 != T) = false := by rw [hgT]; simp
          have hgi := grp_in wd (by omega) (l.take k) (fun j a b ha hb => by
            rw [List.getElem?_take] at ha hb
            split at hb
            · rw [if_pos (by omega)] at ha; exact HI.out.up j a b ha hb
            · cases hb)
          rw [HG.out] at hgi
          have hne := hgi.ne g hgm
          have hsub : ∀ x ∈ g.2, x ∈ l := fun x hx => List.mem_of_mem_take (i := k) (by rw [← hgi.cat]; exact List.mem_flatMap.2 ⟨g, hgm, hx⟩)
          have hgl : g.2.length ≤ 100 := by
            have h1 : g.2.length ≤ (G.flatMap (·.2)).length := by rw [hG0]; simp
            rw [hgi.cat, List.length_take] at h1; omega
          obtain ⟨R, hR⟩ : ∃ R, gRoll g = R := ⟨_, rfl⟩
          have HRK : Hid (R.ok) := by
            rw [← hR]
            refine hid (rAll_ok _ (by unfold vals; rw [List.length_map]; omega) fun v hv => ?_)
            obtain ⟨x, hx, rfl⟩ := List.mem_map.1 hv
            have := HI.out.bd x (hsub x hx); omega
          obtain ⟨b5, rfl⟩ := HOR3.out.ad (by rw [List.length_map, hq]; omega)
          rw [hR] at hrol
          have HZQ := hid hrol
          have HFB := hid (show (grp wd (l.take (k + 1))).map gBeg = G.map gBeg by
            rw [HGN.out, List.map_append, hG0, List.map_append]
            congr 1
            show [gBeg (g.1, g.2 ++ [(xt, xv)])] = [gBeg g]
            unfold gBeg
            congr 2
            cases hg2 : g.2 with
            | nil => exact absurd hg2 hne
            | cons a t => rfl)
          have HFR := hid (show (grp wd (l.take (k + 1))).map gRoll = (G.map gRoll).set (q - 1) (rWith R xv) by
            rw [HGN.out, List.map_append, hG0, List.map_append, hq1, Nat.add_sub_cancel, show G0.length = (G0.map gRoll).length by rw [List.length_map]]
            show _ = (G0.map gRoll ++ [gRoll g]).set (G0.map gRoll).length _
            rw [set_last, ← hR]
            congr 1
            show [gRoll (g.1, g.2 ++ [(xt, xv)])] = _
            unfold gRoll
            rw [vals_snoc, rAll_snoc])
          have HGL := hid (show (grp wd (l.take (k + 1))).length = q by rw [HGN.out, List.length_append, hq1]; rfl)
          have HOB5 := HOB3; have HOR5 := HOR3; have HSB5 := HSB
          clear HOB3 HOR3 HSB HG2 HGN HTT s0 s1 hne hsub hgl hgi hG0 hgT hgm hbeg hrol hR HLT hb1 hr1 hq1
          obtain ⟨rr, hrr⟩ : ∃ r, rWith R xv = r := ⟨_, rfl⟩
          have HC := fun V => hid (roll_with R xv V HRK.out (by omega) (by omega))
          rw [hrr] at HC HFR
          clear hrr
          have s0 : w3.cell? ⟨gs, 0, none⟩ = some (.int .i64 xt) := HSB5.out.cell 0
          have s1 : w3.cell? ⟨gs, 1, none⟩ = some (.int .i64 xv) := HSB5.out.cell 1
          have z0 : w3.cell? ⟨b5, (q - 1) * 4, none⟩ = some (.int .i64 R.c) := (HOR5.out.cellG (g := gR) (j := 0) (fun _ => rfl) HZQ.out rfl).1
          have z1 : w3.cell? ⟨b5, (q - 1) * 4 + 1, none⟩ = some (.int .i64 R.mn) := (HOR5.out.cellG (g := gR) (j := 1) (fun _ => rfl) HZQ.out rfl).1
          have z2 : w3.cell? ⟨b5, (q - 1) * 4 + 2, none⟩ = some (.int .i64 R.mx) := (HOR5.out.cellG (g := gR) (j := 2) (fun _ => rfl) HZQ.out rfl).1
          have z3 : w3.cell? ⟨b5, (q - 1) * 4 + 3, none⟩ = some (.int .i64 R.sm) := (HOR5.out.cellG (g := gR) (j := 3) (fun _ => rfl) HZQ.out rfl).1
          have HOR5d := hid HOR5.out.drew
          obtain ⟨rc, rn, rx, rs⟩ := rr
          go_wp2_with fail
          go_region_with (refine (HC _).out.mono ?_; rintro e w9 ⟨rfl, hb9⟩; have HR9 := hid (HOR5d.out.step hb9); have y0 : w9.cell? ⟨b5, (q - 1) * 4, none⟩ = some (.int .i64 R.c) := (HR9.out.cellG (g := gR) (j := 0) (fun _ => rfl) HZQ.out rfl).1; have y1 : w9.cell? ⟨b5, (q - 1) * 4 + 1, none⟩ = some (.int .i64 R.mn) := (HR9.out.cellG (g := gR) (j := 1) (fun _ => rfl) HZQ.out rfl).1; have y2 : w9.cell? ⟨b5, (q - 1) * 4 + 2, none⟩ = some (.int .i64 R.mx) := (HR9.out.cellG (g := gR) (j := 2) (fun _ => rfl) HZQ.out rfl).1; have y3 : w9.cell? ⟨b5, (q - 1) * 4 + 3, none⟩ = some (.int .i64 R.sm) := (HR9.out.cellG (g := gR) (j := 3) (fun _ => rfl) HZQ.out rfl).1; have f0 : w9.frozen? ⟨b5, (q - 1) * 4, none⟩ = false := (HR9.out.cellG (g := gR) (j := 0) (fun _ => rfl) HZQ.out rfl).2; have f1 : w9.frozen? ⟨b5, (q - 1) * 4 + 1, none⟩ = false := (HR9.out.cellG (g := gR) (j := 1) (fun _ => rfl) HZQ.out rfl).2; have f2 : w9.frozen? ⟨b5, (q - 1) * 4 + 2, none⟩ = false := (HR9.out.cellG (g := gR) (j := 2) (fun _ => rfl) HZQ.out rfl).2; have f3 : w9.frozen? ⟨b5, (q - 1) * 4 + 3, none⟩ = false := (HR9.out.cellG (g := gR) (j := 3) (fun _ => rfl) HZQ.out rfl).2; have hlt9 : b5 < w9.heap.size := World.block_lt_of_cell? w9 _ y0)
          all_goals
            have HB9 := hid (HOB5.out.drew.step hb9)
            have HR10 := hid (Ow.set4 ⟨rc, rn, rx, rs⟩ HR9.out HZQ.out)
            rw [← HFR.out] at HR10
            have hzl0 := (List.getElem?_eq_some_iff.1 HZQ.out).1
            obtain ⟨b', cur, hA, _, hb, hk9, _⟩ := HR9.out.rowG (by omega)
            injection hA with hA; injection hA with hA; subst hA
            have hchg := ((((Chg.refl (fun k => k = b5) w9).setCell (p := ⟨b5, (q - 1) * 4, none⟩) (fun _ => rfl) (.int .i64 rc)).setCell (p := ⟨b5, (q - 1) * 4 + 1, none⟩) (fun _ => rfl) (.int .i64 rn)).setCell (p := ⟨b5, (q - 1) * 4 + 2, none⟩) (fun _ => rfl) (.int .i64 rx)).setCell (p := ⟨b5, (q - 1) * 4 + 3, none⟩) (fun _ => rfl) (.int .i64 rs)
            have HB10 := hid (HB9.out.chgB hchg (fun k hk e => own_ne_blk HB9.out.own hk9 (by decide) (by rw [hk, e])) (fun k e => by rw [e]; exact hb))
            clear s0 s1 z0 z1 z2 z3 y0 y1 y2 y3 f0 f1 f2 f3 hk9 hchg hzl0 hb
            generalize ((((w9.setCell ⟨b5, (q - 1) * 4, none⟩ (.int .i64 rc)).setCell ⟨b5, (q - 1) * 4 + 1, none⟩ (.int .i64 rn)).setCell ⟨b5, (q - 1) * 4 + 2, none⟩ (.int .i64 rx)).setCell ⟨b5, (q - 1) * 4 + 3, none⟩ (.int .i64 rs)) = w10 at *
            go_wp2
            go_roundw
            case rel => exact ⟨k + 1, grp wd (l.take (k + 1)), by omega, by go_num, hid rfl, by rw [HGL.out]; omega, (by rw [HFB.out]; exact HB10.out), HR10.out⟩
            case measure => simp [intOf]; omega
        · have HGN := hid (HG2.out.trans (gAdd_new wd G (xt, xv) (.inr ⟨G0, g, hG0, by rw [HTT.out]; exact hgT⟩)))
          rw [HTT.out] at HGN
          have nT : (g.1 != T) = true := by simpa using hgT
          have HG0 := hid hG0
          clear hG0 hgT hq1 hgm hbeg hrol
          obtain ⟨y, hy⟩ : ∃ y, G.map gBeg ++ [(T, xv)] = y := ⟨_, rfl⟩
          have hyl : y.length = q + 1 := by rw [← hy, List.length_append, List.length_map, hq]; rfl
          obtain ⟨z, hz⟩ : ∃ z, G.map gRoll ++ [r0] = z := ⟨_, rfl⟩
          have hzl : z.length = q + 1 := by rw [← hz, List.length_append, List.length_map, hq]; rfl
          have HY := hid hy; have HZ := hid hz; have HYL := hid hyl; have HZL := hid hzl
          have Y1 := hid (show y.length ≤ maxLen by rw [hyl]; unfold maxLen; omega)
          have Y2 := hid (show y.length * 16 ≤ 140737488355328 by rw [hyl]; omega)
          have Z1 := hid (show z.length ≤ maxLen by rw [hzl]; unfold maxLen; omega)
          have Z2 := hid (show z.length * 32 ≤ 140737488355328 by rw [hzl]; omega)
          have Z3 := hid (show 0 < z.length by rw [hzl]; omega)
          clear hy hz hyl
          have m1 : wrap64 ((q : Int) + 1 - 1) = (q : Int) := by rw [show (q : Int) + 1 - 1 = (q : Int) by omega]; exact IntWalk.wrap64_in _ ⟨by omega, by omega⟩
          have m3 : (q : Int) < (q : Int) + 1 := by omega
          have HNB := hid (show ∀ k, (Value.slice (some ⟨b9, 0, none⟩) q c9).ownBlock = some k → k ≠ gs from fun k hk => HLT.out k hk)
          have HOB3a := hid (HOB3.out.alloc (.cells #[.int .i64 T, .int .i64 xv] 26))
          have HOR3a := hid (HOR3.out.alloc (.cells #[.int .i64 T, .int .i64 xv] 26))
          have HSB3a := hid (HSB.out.alloc (.cells #[.int .i64 T, .int .i64 xv] 26))
          have HNE3 := hid (fun k hk => own_ne_own HOR3a.out.own HOB3a.out.own (by decide) k hk)
          have HNG3 := hid (show ¬ (Value.slice (some ⟨b9, 0, none⟩) q c9).ownBlock = some gs from fun e => HNB.out _ e rfl)
          go_wp2_with (first
            | (at_builtin; refine wpList_appY elmP gP_one rfl (.tmp 54) (.tmp 59) rfl (.slice (some ⟨b9, 0, none⟩) q c9) (G.map gBeg) rfl HOB3a.out [(T, xv)] y HY rfl (Sl.fresh _ #[.int .i64 T, .int .i64 xv] 26 2 1 rfl) rfl Y1.out Y2.out ?_; intro A4 c4 w4 hc4 hc5 HN1 HG1 _; have HOR4 := hid (HOR3a.out.grown HG1.out HNE3.out HN1.out.below); have HSB4 := hid ((Chg.of_grown HG1.out (fun k h => h) : Chg (fun k => (Value.slice (some ⟨b9, 0, none⟩) q c9).ownBlock = some k) _ _).blk HSB3a.out HNG3.out))
            | (at_builtin; refine wpList_appY elmR4 gR_one rfl (.tmp 61) (.tmp 63) rfl (.slice A10 q c10) (G.map gRoll) rfl (HOR4.out.alloc _) [r0] z HZ rfl (Sl.fresh _ #[.int .i64 0, .int .i64 0, .int .i64 0, .int .i64 0] 35 4 1 rfl) rfl Z1.out Z2.out ?_; intro A5 c5 w5 hc6 hc7 HN2 HG2' _; obtain ⟨b5, rfl⟩ := HN2.out.ad Z3.out))
          have HOR4a := hid (HOR4.out.alloc (.cells #[.int .i64 0, .int .i64 0, .int .i64 0, .int .i64 0] 35))
          have HOB4a := hid (HN1.out.alloc (.cells #[.int .i64 0, .int .i64 0, .int .i64 0, .int .i64 0] 35))
          have HSB4a := hid (HSB4.out.alloc (.cells #[.int .i64 0, .int .i64 0, .int .i64 0, .int .i64 0] 35))
          have HOB5 := hid (HOB4a.out.grown HG2'.out (fun k hk => own_ne_own HOB4a.out.own HOR4a.out.own (by decide) k hk) HN2.out.below)
          have HSB5 := hid ((Chg.of_grown HG2'.out (fun k h => h) : Chg (fun k => (Value.slice A10 q c10).ownBlock = some k) _ _).blk HSB4a.out (own_ne_blk HOR4a.out.own HSB4a.out (by decide)))
          have HOR5 := HN2
          rw [HZL.out] at HOR5 hc6
          have HRK : Hid ((r0).ok) := hid ⟨by decide, by decide, by decide, by decide⟩
          have HZQ := hid (show z[q]? = some r0 by rw [← HZ.out, List.getElem?_append_right (by rw [List.length_map, hq]; exact Nat.le_refl _), List.length_map, hq, Nat.sub_self]; rfl)
          have HFB := hid (show (grp wd (l.take (k + 1))).map gBeg = y by rw [HGN.out, List.map_append, ← HY.out]; rfl)
          have HFR := hid (show (grp wd (l.take (k + 1))).map gRoll = z.set q (rWith r0 xv) by
            rw [HGN.out, List.map_append, ← HZ.out, show q = (G.map gRoll).length by rw [List.length_map, hq], set_last]; rfl)
          have HGL := hid (show (grp wd (l.take (k + 1))).length = q + 1 by rw [HGN.out, List.length_append, hq]; rfl)
          clear HN1 HN2 HOR4 HOB4a HOR4a HSB4 HSB4a HG1 HG2' HOB3 HOR3 HSB HOB3a HOR3a HSB3a HNE3 HNG3 HNB HLT s0 s1 hq HY HZ Y1 Y2 Z1 Z2 Z3 hb1 hr1 HG2 HGN HTT

          obtain ⟨rr, hrr⟩ : ∃ r, rWith r0 xv = r := ⟨_, rfl⟩
          have HC := fun V => hid (roll_with r0 xv V HRK.out (by omega) (by omega))
          rw [hrr] at HC HFR
          clear hrr
          have s0 : w5.cell? ⟨gs, 0, none⟩ = some (.int .i64 xt) := HSB5.out.cell 0
          have s1 : w5.cell? ⟨gs, 1, none⟩ = some (.int .i64 xv) := HSB5.out.cell 1
          have z0 : w5.cell? ⟨b5, q * 4, none⟩ = some (.int .i64 r0.c) := (HOR5.out.cellG (g := gR) (j := 0) (fun _ => rfl) HZQ.out rfl).1
          have z1 : w5.cell? ⟨b5, q * 4 + 1, none⟩ = some (.int .i64 r0.mn) := (HOR5.out.cellG (g := gR) (j := 1) (fun _ => rfl) HZQ.out rfl).1
          have z2 : w5.cell? ⟨b5, q * 4 + 2, none⟩ = some (.int .i64 r0.mx) := (HOR5.out.cellG (g := gR) (j := 2) (fun _ => rfl) HZQ.out rfl).1
          have z3 : w5.cell? ⟨b5, q * 4 + 3, none⟩ = some (.int .i64 r0.sm) := (HOR5.out.cellG (g := gR) (j := 3) (fun _ => rfl) HZQ.out rfl).1
          have HOR5d := hid HOR5.out.drew
          obtain ⟨rc, rn, rx, rs⟩ := rr
          go_wp2_with fail
          go_region_with (refine (HC _).out.mono ?_; rintro e w9 ⟨rfl, hb9⟩; have HR9 := hid (HOR5d.out.step hb9); have y0 : w9.cell? ⟨b5, q * 4, none⟩ = some (.int .i64 r0.c) := (HR9.out.cellG (g := gR) (j := 0) (fun _ => rfl) HZQ.out rfl).1; have y1 : w9.cell? ⟨b5, q * 4 + 1, none⟩ = some (.int .i64 r0.mn) := (HR9.out.cellG (g := gR) (j := 1) (fun _ => rfl) HZQ.out rfl).1; have y2 : w9.cell? ⟨b5, q * 4 + 2, none⟩ = some (.int .i64 r0.mx) := (HR9.out.cellG (g := gR) (j := 2) (fun _ => rfl) HZQ.out rfl).1; have y3 : w9.cell? ⟨b5, q * 4 + 3, none⟩ = some (.int .i64 r0.sm) := (HR9.out.cellG (g := gR) (j := 3) (fun _ => rfl) HZQ.out rfl).1; have f0 : w9.frozen? ⟨b5, q * 4, none⟩ = false := (HR9.out.cellG (g := gR) (j := 0) (fun _ => rfl) HZQ.out rfl).2; have f1 : w9.frozen? ⟨b5, q * 4 + 1, none⟩ = false := (HR9.out.cellG (g := gR) (j := 1) (fun _ => rfl) HZQ.out rfl).2; have f2 : w9.frozen? ⟨b5, q * 4 + 2, none⟩ = false := (HR9.out.cellG (g := gR) (j := 2) (fun _ => rfl) HZQ.out rfl).2; have f3 : w9.frozen? ⟨b5, q * 4 + 3, none⟩ = false := (HR9.out.cellG (g := gR) (j := 3) (fun _ => rfl) HZQ.out rfl).2; have hlt9 : b5 < w9.heap.size := World.block_lt_of_cell? w9 _ y0)
          all_goals
            have HB9 := hid (HOB5.out.drew.step hb9)
            have HR10 := hid (Ow.set4 ⟨rc, rn, rx, rs⟩ HR9.out HZQ.out)
            rw [← HFR.out] at HR10
            have hzl0 := (List.getElem?_eq_some_iff.1 HZQ.out).1
            obtain ⟨b', cur, hA, _, hb, hk9, _⟩ := HR9.out.rowG (by omega)
            injection hA with hA; injection hA with hA; subst hA
            have hchg := ((((Chg.refl (fun k => k = b5) w9).setCell (p := ⟨b5, q * 4, none⟩) (fun _ => rfl) (.int .i64 rc)).setCell (p := ⟨b5, q * 4 + 1, none⟩) (fun _ => rfl) (.int .i64 rn)).setCell (p := ⟨b5, q * 4 + 2, none⟩) (fun _ => rfl) (.int .i64 rx)).setCell (p := ⟨b5, q * 4 + 3, none⟩) (fun _ => rfl) (.int .i64 rs)
            have HB10 := hid (HB9.out.chgB hchg (fun k hk e => own_ne_blk HB9.out.own hk9 (by decide) (by rw [hk, e])) (fun k e => by rw [e]; exact hb))
            clear s0 s1 z0 z1 z2 z3 y0 y1 y2 y3 f0 f1 f2 f3 hk9 hchg hzl0 hb
            generalize ((((w9.setCell ⟨b5, q * 4, none⟩ (.int .i64 rc)).setCell ⟨b5, q * 4 + 1, none⟩ (.int .i64 rn)).setCell ⟨b5, q * 4 + 2, none⟩ (.int .i64 rx)).setCell ⟨b5, q * 4 + 3, none⟩ (.int .i64 rs)) = w10 at *
            go_wp2
            go_roundw
            case rel => exact ⟨k + 1, grp wd (l.take (k + 1)), by omega, by go_num, hid rfl, by rw [HGL.out]; omega, (by rw [HFB.out]; exact HB10.out), HR10.out⟩
            case measure => simp [intOf]; omega
    · obtain rfl : k = n := by omega
      have E := hid (show l.take k = l from List.take_of_length_le (by rw [HL.out]; exact Nat.le_refl _))
      have j1 : ¬ (k : Int) < (k : Int) := by omega
      have j2 : ¬ (100 : Int) < (G.length : Int) := by omega
      rw [← HG.out, E.out] at HOB HOR
      rw [HG.out.symm.trans (by rw [E.out])] at j2 ⊢
      go_wp2
      refine bodyPost_ret (v := .tuple #[.slice A9 (grp wd l).length c9, .slice A10 (grp wd l).length c10, .int .i64 0]) (by simp [results, Tryd.results28, go_sem]) rfl ⟨_, _, rfl, HOB.out, HOR.out⟩
end Go.Proofs.YtpoaomjpbjcmbaaDoor
