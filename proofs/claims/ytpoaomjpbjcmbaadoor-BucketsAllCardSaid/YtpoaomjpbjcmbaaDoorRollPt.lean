/-
  RollParts: its walk.
-/
import Derived.Test.YtpoaomjpbjcmbaaDoorRollB
namespace Go.Proofs.YtpoaomjpbjcmbaaDoor
open Go.RowKit
set_option linter.unusedVariables false
theorem SmpsIn.drop {l : List (Int × Int)} (h : SmpsIn l) (i : Nat) : SmpsIn (l.drop i) :=
  ⟨fun x hx => h.bd x (List.mem_of_mem_drop hx), fun k x y hx hy => by
    rw [List.getElem?_drop] at hx hy
    exact h.up (i + k) x y hx (by rw [← hy]; congr 1)⟩
theorem SmpsIn.take {l : List (Int × Int)} (h : SmpsIn l) (i : Nat) : SmpsIn (l.take i) :=
  ⟨fun x hx => h.bd x (List.mem_of_mem_take hx), fun k x y hx hy => by
    rw [List.getElem?_take] at hx hy
    split at hy
    · rename_i h1
      rw [if_pos (by omega)] at hx
      exact h.up k x y hx hy
    · cases hy⟩
theorem blk4 {w : World} {g : Nat} {t : TypeId} {r : R4} (h : Blk w g t r.cs) : w.cell? ⟨g, 0, none⟩ = some (.int .i64 r.c) ∧ w.cell? ⟨g, 1, none⟩ = some (.int .i64 r.mn) ∧ w.cell? ⟨g, 2, none⟩ = some (.int .i64 r.mx) ∧ w.cell? ⟨g, 3, none⟩ = some (.int .i64 r.sm) :=
  ⟨h.cell 0, h.cell 1, h.cell 2, h.cell 3⟩
theorem smps_may {l : List (Int × Int)} (h : SmpsIn l) (hl : l.length ≤ 120) : MayOk (rAll (vals l)) :=
  rAll_may _ (by unfold vals; rw [List.length_map]; exact hl) fun v hv => by
    obtain ⟨x, hx, rfl⟩ := List.mem_map.1 hv
    exact (h.bd x hx).2.2
theorem vals_app (a b : List (Int × Int)) : vals (a ++ b) = vals a ++ vals b := by unfold vals; simp
theorem rJoin_comm' (xs ys : List Int) : rJoin (rAll xs) (rAll ys) = rJoin (rAll ys) (rAll xs) := by
  by_cases h1 : (rAll xs).c = 0
  · rw [rAll_c] at h1
    obtain rfl : xs = [] := List.eq_nil_of_length_eq_zero (by omega)
    rw [rAll_app, rAll_app]; simp
  · by_cases h2 : (rAll ys).c = 0
    · rw [rAll_c] at h2
      obtain rfl : ys = [] := List.eq_nil_of_length_eq_zero (by omega)
      rw [rAll_app, rAll_app]; simp
    · exact rJoin_comm _ _ h1 h2
theorem join_to (a b r : R4) (W : World) (ha : MayOk a) (hb : MayOk b) (hr : MayOk r) (e : rJoin a b = r) (_ : Below W.heap.size W W) :
    Calls Tryd.prog 26 #[.agg a.cs, .agg b.cs] W fun e w' => e = .returned (.tuple #[.agg r.cs, .int .i64 0]) ∧ Below W.heap.size W w' := by
  subst e; exact roll_join a b W ha hb hr
set_option maxRecDepth 100000 in
set_option maxHeartbeats 4000000 in
theorem law_rollParts (A : Option Addr) (n c : Nat) (l : List (Int × Int × Bool)) (first a b : Int) (w : World) (hn : n ≤ c) (hc : c ≤ maxLen) (_ : c * 24 ≤ 140737488351232) (hx : Sl w 3 A n (l.flatMap gD)) (hd : ∀ d ∈ l, DotOk d) (hf : -9223372036854775808 ≤ first) (hf1 : first ≤ 9223372036854775807) (ha : -9223372036854775808 ≤ a) (ha1 : a ≤ 9223372036854775807) (hb : -9223372036854775808 ≤ b) (hb1 : b ≤ 9223372036854775807) (ht : ZTab w) :
    Calls Tryd.prog 9 #[.slice A n c, .int .i64 first, .int .i64 a, .int .i64 b] w fun e w' => e = .returned (.bool true) ∧ Below w.heap.size w w' := by
  have HX := hid hx; have HD := hid hd; have HT := hid ht; clear hx hd ht
  go_enter Tryd.func9, Tryd.ntmps9
  go_wp2_with fail
  refine (samples A n c l first 120 w hn hc HX.out HD.out hf hf1 (by omega)).mono ?_
  rintro e w1 ⟨v1, rfl, ho1⟩
  obtain ⟨hin, hlen⟩ := smps_in first hf hf1 l HD.out 120
  have HI := hid hin
  generalize smps l first 120 = s at *
  obtain ⟨A1, c1, rfl, hc1, hc2⟩ := ho1.form
  obtain ⟨m, hm⟩ : ∃ m, s.length = m := ⟨_, rfl⟩
  rw [hm] at ho1 hc1 hlen ⊢
  have HO1 := hid ho1; have HM := hid hm
  clear ho1 hm hin
  go_wp2_with fail
  refine (picked a _ w1 (by omega) ha ha1 (by omega)).mono ?_
  rintro e w1 ⟨rfl, rfl⟩
  have hp := pk_lt a ((m : Int) + 1) (by omega)
  generalize pk a ((m : Int) + 1) = i at *
  have him : i ≤ m := by omega
  clear hp
  go_wp2_with fail
  refine (picked b _ w1 (by omega) hb hb1 (by omega)).mono ?_
  rintro e w1 ⟨rfl, rfl⟩
  have hp := pk_lt b ((m : Int) - (i : Int) + 1) (by omega)
  generalize pk b ((m : Int) - (i : Int) + 1) = j at *
  obtain ⟨k, hk⟩ : ∃ k, i + j = k := ⟨_, rfl⟩
  have hij : (i : Int) + (j : Int) = (k : Int) := by omega
  have hik : i ≤ k := by omega
  have hkm : k ≤ m := by omega
  clear hp hk
  unfold maxLen at hc2
  have z1 : (i : Int) ≤ (c1 : Int) := by omega
  have z2 : (k : Int) ≤ (c1 : Int) := by omega
  have z3 : (i : Int) ≤ (k : Int) := by omega
  have z4 : (m : Int) ≤ (c1 : Int) := by omega
  have z5 : (k : Int) ≤ (m : Int) := by omega
  have hsi := HO1.out.sl.cutG (g := gP) (fun _ => rfl) him hc1
  have hsk := HO1.out.sl.cutG (g := gP) (fun _ => rfl) hkm hc1
  obtain ⟨Ai, hAi⟩ : ∃ Ai, (if c1 = i then A1 else Option.map (fun x => x.add (i * 2)) A1) = Ai := ⟨_, rfl⟩
  obtain ⟨Ak, hAk⟩ : ∃ Ak, (if c1 = k then A1 else Option.map (fun x => x.add (k * 2)) A1) = Ak := ⟨_, rfl⟩
  rw [hAi] at hsi; rw [hAk] at hsk
  have HSI := hid (hsi.preG (k := k - i) (g := gP) (fun _ => rfl) (by omega))
  have HSK := hid hsk
  have HSP := hid (HO1.out.sl.preG (k := i) (g := gP) (fun _ => rfl) him)
  clear hsi hsk
  obtain ⟨rx, hrx⟩ : ∃ r, rAll (vals (s.take i)) = r := ⟨_, rfl⟩
  obtain ⟨ry, hry⟩ : ∃ r, rAll (vals ((s.drop i).take (k - i))) = r := ⟨_, rfl⟩
  obtain ⟨rz, hrz⟩ : ∃ r, rAll (vals (s.drop k)) = r := ⟨_, rfl⟩
  obtain ⟨ra, hra⟩ : ∃ r, rAll (vals s) = r := ⟨_, rfl⟩
  obtain ⟨rxy, hrxy⟩ : ∃ r, rAll (vals (s.take k)) = r := ⟨_, rfl⟩
  obtain ⟨ryz, hryz⟩ : ∃ r, rAll (vals (s.drop i)) = r := ⟨_, rfl⟩
  have hml := HM.out
  have M1 : MayOk rx := by rw [← hrx]; exact smps_may (HI.out.take i) (by rw [List.length_take]; omega)
  have M2 : MayOk ry := by rw [← hry]; exact smps_may ((HI.out.drop i).take (k - i)) (by rw [List.length_take, List.length_drop]; omega)
  have M3 : MayOk rz := by rw [← hrz]; exact smps_may (HI.out.drop k) (by rw [List.length_drop]; omega)
  have M4 : MayOk ra := by rw [← hra]; exact smps_may HI.out (by omega)
  have M5 : MayOk rxy := by rw [← hrxy]; exact smps_may (HI.out.take k) (by rw [List.length_take]; omega)
  have M6 : MayOk ryz := by rw [← hryz]; exact smps_may (HI.out.drop i) (by rw [List.length_drop]; omega)
  have s1 : s.take i ++ (s.drop i).take (k - i) = s.take k := by
    have h := List.take_append_drop i (s.take k)
    rw [List.take_take, Nat.min_eq_left hik, List.drop_take] at h; exact h
  have s2 : (s.drop i).take (k - i) ++ s.drop k = s.drop i := by
    conv => rhs; rw [← List.take_append_drop (k - i) (s.drop i), List.drop_drop]
    rw [show i + (k - i) = k by omega]
  have E1 : rJoin rx ry = rxy := by rw [← hrx, ← hry, ← hrxy, rAll_app, ← vals_app, s1]
  have E2 : rJoin ry rx = rxy := by rw [← E1, ← hrx, ← hry]; exact rJoin_comm' _ _
  have E3 : rJoin ry rz = ryz := by rw [← hry, ← hrz, ← hryz, rAll_app, ← vals_app, s2]
  have E4 : rJoin rxy rz = ra := by rw [← hrxy, ← hrz, ← hra, rAll_app, ← vals_app, List.take_append_drop]
  have E5 : rJoin rx ryz = ra := by rw [← hrx, ← hryz, ← hra, rAll_app, ← vals_app, List.take_append_drop]
  have E6 : rJoin ra r0 = ra := by rw [← hra]; have := rAll_app (vals s) []; simpa [rAll] using this
  have hrac : ra.c = (m : Int) := by rw [← hra, rAll_c]; unfold vals; rw [List.length_map, HM.out]
  have F1 := fun W h => hid (join_to rx ry rxy W M1 M2 M5 E1 h)
  have F2 := fun W h => hid (join_to ry rx rxy W M2 M1 M5 E2 h)
  have F3 := fun W h => hid (join_to ry rz ryz W M2 M3 M6 E3 h)
  have F4 := fun W h => hid (join_to rxy rz ra W M5 M3 M4 E4 h)
  have F5 := fun W h => hid (join_to rx ryz ra W M1 M6 M4 E5 h)
  have F6 := fun W h => hid (join_to ra r0 ra W M4 (.inl rfl) M4 E6 h)
  have HRX := hid hrx; have HRY := hid hry; have HRZ := hid hrz; have HRA := hid hra
  have HC := hid hrac
  have em := bneF (show (m : Int) = (m : Int) from rfl)
  clear M1 M2 M3 M4 M5 M6 E1 E2 E3 E4 E5 E6 s1 s2 hrx hry hrz hra hrxy hryz hml hrac
  obtain ⟨rac, ran, rax, ras⟩ := ra
  have hrac : rac = (m : Int) := HC.out
  subst hrac
  have HB1 := hid (bnil w1)
  go_wp2_with fail
  refine (roll_Of A1 i c1 (s.take i) _ (by omega) (HSP.out.below HB1.out) (HI.out.take i) (HT.out.below (bgo' HB1.out HO1.out.below))).mono ?_
  rw [HRX.out]
  rintro e w2 ⟨rfl, hb⟩
  have HB2 := hid (bgo' hb HB1.out)
  clear hb HB1
  go_wp2_with fail
  refine (roll_Of Ai (k - i) (c1 - i) ((s.drop i).take (k - i)) _ (by omega) (HSI.out.below (bnew HB2.out _)) ((HI.out.drop i).take (k - i)) (HT.out.below (bgo' (bnew HB2.out _) HO1.out.below))).mono ?_
  rw [HRY.out]
  rintro e w3 ⟨rfl, hb⟩
  have HB3 := hid (bgo' hb (bnew HB2.out _))
  have Kx := hid (Blk.below' (Blk.new w2 35 (rx).cs) hb)
  clear hb HB2
  go_wp2_with fail
  refine (roll_Of Ak (m - k) (c1 - k) (s.drop k) _ (by omega) (HSK.out.below (bnew HB3.out _)) (HI.out.drop k) (HT.out.below (bgo' (bnew HB3.out _) HO1.out.below))).mono ?_
  rw [HRZ.out]
  rintro e w4 ⟨rfl, hb⟩
  have HB4 := hid (bgo' hb (bnew HB3.out _))
  have Kx' := hid (Blk.below' (Kx.out.alloc _) hb); clear Kx; have Kx := Kx'; clear Kx'
  have Ky := hid (Blk.below' (Blk.new w3 35 (ry).cs) hb)
  clear hb HB3
  go_wp2_with fail
  refine (roll_Of A1 m c1 s _ (by omega) (HO1.out.sl.below (bnew HB4.out _)) HI.out (HT.out.below (bgo' (bnew HB4.out _) HO1.out.below))).mono ?_
  rw [HRA.out]
  rintro e w5 ⟨rfl, hb⟩
  have HB5 := hid (bgo' hb (bnew HB4.out _))
  have Kx' := hid (Blk.below' (Kx.out.alloc _) hb); clear Kx; have Kx := Kx'; clear Kx'
  have Ky' := hid (Blk.below' (Ky.out.alloc _) hb); clear Ky; have Ky := Ky'; clear Ky'
  have Kz := hid (Blk.below' (Blk.new w4 35 (rz).cs) hb)
  clear hb HB4
  obtain ⟨x0, x1, x2, x3⟩ := blk4 Kx.out
  have lx := Kx.out.lt
  obtain ⟨y0, y1, y2, y3⟩ := blk4 Ky.out
  have ly := Ky.out.lt
  go_wp2_with fail
  refine (F1 _ (bnil _)).out.mono ?_
  rintro e w6 ⟨rfl, hb⟩
  clear x0 x1 x2 x3 lx y0 y1 y2 y3 ly
  have HB6 := hid (bgo' hb (bnew HB5.out _))
  have Kx' := hid (Blk.below' (Kx.out.alloc _) hb); clear Kx; have Kx := Kx'; clear Kx'
  have Ky' := hid (Blk.below' (Ky.out.alloc _) hb); clear Ky; have Ky := Ky'; clear Ky'
  have Kz' := hid (Blk.below' (Kz.out.alloc _) hb); clear Kz; have Kz := Kz'; clear Kz'
  have Kal := hid (Blk.below' (Blk.new w5 35 (R4.mk (m : Int) ran rax ras).cs) hb)
  clear hb HB5
  obtain ⟨y0, y1, y2, y3⟩ := blk4 Ky.out
  have ly := Ky.out.lt
  obtain ⟨x0, x1, x2, x3⟩ := blk4 Kx.out
  have lx := Kx.out.lt
  go_wp2_with fail
  refine (F2 _ (bnil _)).out.mono ?_
  rintro e w7 ⟨rfl, hb⟩
  clear y0 y1 y2 y3 ly x0 x1 x2 x3 lx
  have HB7 := hid (bgo' hb (bnew HB6.out _))
  have Kx' := hid (Blk.below' (Kx.out.alloc _) hb); clear Kx; have Kx := Kx'; clear Kx'
  have Ky' := hid (Blk.below' (Ky.out.alloc _) hb); clear Ky; have Ky := Ky'; clear Ky'
  have Kz' := hid (Blk.below' (Kz.out.alloc _) hb); clear Kz; have Kz := Kz'; clear Kz'
  have Kal' := hid (Blk.below' (Kal.out.alloc _) hb); clear Kal; have Kal := Kal'; clear Kal'
  have Kxy := hid (Blk.below' (Blk.new w6 35 (rxy).cs) hb)
  clear hb HB6
  obtain ⟨y0, y1, y2, y3⟩ := blk4 Ky.out
  have ly := Ky.out.lt
  obtain ⟨z0, z1, z2, z3⟩ := blk4 Kz.out
  have lz := Kz.out.lt
  go_wp2_with fail
  refine (F3 _ (bnil _)).out.mono ?_
  rintro e w8 ⟨rfl, hb⟩
  clear y0 y1 y2 y3 ly z0 z1 z2 z3 lz
  have HB8 := hid (bgo' hb (bnew HB7.out _))
  have Kx' := hid (Blk.below' (Kx.out.alloc _) hb); clear Kx; have Kx := Kx'; clear Kx'
  have Ky' := hid (Blk.below' (Ky.out.alloc _) hb); clear Ky; have Ky := Ky'; clear Ky'
  have Kz' := hid (Blk.below' (Kz.out.alloc _) hb); clear Kz; have Kz := Kz'; clear Kz'
  have Kal' := hid (Blk.below' (Kal.out.alloc _) hb); clear Kal; have Kal := Kal'; clear Kal'
  have Kxy' := hid (Blk.below' (Kxy.out.alloc _) hb); clear Kxy; have Kxy := Kxy'; clear Kxy'
  have Kyx := hid (Blk.below' (Blk.new w7 35 (rxy).cs) hb)
  clear hb HB7
  obtain ⟨xy0, xy1, xy2, xy3⟩ := blk4 Kxy.out
  have lxy := Kxy.out.lt
  obtain ⟨z0, z1, z2, z3⟩ := blk4 Kz.out
  have lz := Kz.out.lt
  go_wp2_with fail
  refine (F4 _ (bnil _)).out.mono ?_
  rintro e w9 ⟨rfl, hb⟩
  clear xy0 xy1 xy2 xy3 lxy z0 z1 z2 z3 lz
  have HB9 := hid (bgo' hb (bnew HB8.out _))
  have Kx' := hid (Blk.below' (Kx.out.alloc _) hb); clear Kx; have Kx := Kx'; clear Kx'
  have Ky' := hid (Blk.below' (Ky.out.alloc _) hb); clear Ky; have Ky := Ky'; clear Ky'
  have Kz' := hid (Blk.below' (Kz.out.alloc _) hb); clear Kz; have Kz := Kz'; clear Kz'
  have Kal' := hid (Blk.below' (Kal.out.alloc _) hb); clear Kal; have Kal := Kal'; clear Kal'
  have Kxy' := hid (Blk.below' (Kxy.out.alloc _) hb); clear Kxy; have Kxy := Kxy'; clear Kxy'
  have Kyx' := hid (Blk.below' (Kyx.out.alloc _) hb); clear Kyx; have Kyx := Kyx'; clear Kyx'
  have Kyz := hid (Blk.below' (Blk.new w8 35 (ryz).cs) hb)
  clear hb HB8
  obtain ⟨x0, x1, x2, x3⟩ := blk4 Kx.out
  have lx := Kx.out.lt
  obtain ⟨yz0, yz1, yz2, yz3⟩ := blk4 Kyz.out
  have lyz := Kyz.out.lt
  go_wp2_with fail
  refine (F5 _ (bnil _)).out.mono ?_
  rintro e w10 ⟨rfl, hb⟩
  clear x0 x1 x2 x3 lx yz0 yz1 yz2 yz3 lyz
  have HB10 := hid (bgo' hb (bnew HB9.out _))
  have Kx' := hid (Blk.below' (Kx.out.alloc _) hb); clear Kx; have Kx := Kx'; clear Kx'
  have Ky' := hid (Blk.below' (Ky.out.alloc _) hb); clear Ky; have Ky := Ky'; clear Ky'
  have Kz' := hid (Blk.below' (Kz.out.alloc _) hb); clear Kz; have Kz := Kz'; clear Kz'
  have Kal' := hid (Blk.below' (Kal.out.alloc _) hb); clear Kal; have Kal := Kal'; clear Kal'
  have Kxy' := hid (Blk.below' (Kxy.out.alloc _) hb); clear Kxy; have Kxy := Kxy'; clear Kxy'
  have Kyx' := hid (Blk.below' (Kyx.out.alloc _) hb); clear Kyx; have Kyx := Kyx'; clear Kyx'
  have Kyz' := hid (Blk.below' (Kyz.out.alloc _) hb); clear Kyz; have Kyz := Kyz'; clear Kyz'
  have Kp := hid (Blk.below' (Blk.new w9 35 (R4.mk (m : Int) ran rax ras).cs) hb)
  clear hb HB9
  obtain ⟨al0, al1, al2, al3⟩ := blk4 Kal.out
  have lal := Kal.out.lt
  go_wp2_with fail
  refine (F6 _ (bnil _)).out.mono ?_
  rintro e w11 ⟨rfl, hb⟩
  clear al0 al1 al2 al3 lal
  have HB11 := hid (bgo' hb (bnew HB10.out _))
  have Kx' := hid (Blk.below' (Kx.out.alloc _) hb); clear Kx; have Kx := Kx'; clear Kx'
  have Ky' := hid (Blk.below' (Ky.out.alloc _) hb); clear Ky; have Ky := Ky'; clear Ky'
  have Kz' := hid (Blk.below' (Kz.out.alloc _) hb); clear Kz; have Kz := Kz'; clear Kz'
  have Kal' := hid (Blk.below' (Kal.out.alloc _) hb); clear Kal; have Kal := Kal'; clear Kal'
  have Kxy' := hid (Blk.below' (Kxy.out.alloc _) hb); clear Kxy; have Kxy := Kxy'; clear Kxy'
  have Kyx' := hid (Blk.below' (Kyx.out.alloc _) hb); clear Kyx; have Kyx := Kyx'; clear Kyx'
  have Kyz' := hid (Blk.below' (Kyz.out.alloc _) hb); clear Kyz; have Kyz := Kyz'; clear Kyz'
  have Kp' := hid (Blk.below' (Kp.out.alloc _) hb); clear Kp; have Kp := Kp'; clear Kp'
  have Kq := hid (Blk.below' (Blk.new w10 35 (R4.mk (m : Int) ran rax ras).cs) hb)
  clear hb HB10
  go_wp2_with fail
  refine (roll_Of _ 1 1 [(0, 3)] _ (by omega) (Sl.fresh1 w11 _ #[.int .i64 0, .int .i64 3] 26 2 1 rfl) ⟨by simp, by intro k x y hx hy; simp at hy⟩ (HT.out.below (bgo' (bnew (bnew HB11.out _) _) HO1.out.below))).mono ?_
  rw [show rAll (vals [((0 : Int), (3 : Int))]) = R4.mk 1 3 3 3 from rfl]
  rintro e w12 ⟨rfl, hb⟩
  have HB12 := hid (bgo' hb (bnew (bnew HB11.out _) _))
  have Kx' := hid (Blk.below' ((Kx.out.alloc _).alloc _) hb); clear Kx; have Kx := Kx'; clear Kx'
  have Ky' := hid (Blk.below' ((Ky.out.alloc _).alloc _) hb); clear Ky; have Ky := Ky'; clear Ky'
  have Kz' := hid (Blk.below' ((Kz.out.alloc _).alloc _) hb); clear Kz; have Kz := Kz'; clear Kz'
  have Kal' := hid (Blk.below' ((Kal.out.alloc _).alloc _) hb); clear Kal; have Kal := Kal'; clear Kal'
  have Kxy' := hid (Blk.below' ((Kxy.out.alloc _).alloc _) hb); clear Kxy; have Kxy := Kxy'; clear Kxy'
  have Kyx' := hid (Blk.below' ((Kyx.out.alloc _).alloc _) hb); clear Kyx; have Kyx := Kyx'; clear Kyx'
  have Kyz' := hid (Blk.below' ((Kyz.out.alloc _).alloc _) hb); clear Kyz; have Kyz := Kyz'; clear Kyz'
  have Kp' := hid (Blk.below' ((Kp.out.alloc _).alloc _) hb); clear Kp; have Kp := Kp'; clear Kp'
  have Kq' := hid (Blk.below' ((Kq.out.alloc _).alloc _) hb); clear Kq; have Kq := Kq'; clear Kq'
  have Ksm := hid (Blk.below' ((Blk.new w11 35 (R4.mk (m : Int) ran rax ras).cs).alloc _) hb)
  clear hb HB11
  obtain ⟨xy0, xy1, xy2, xy3⟩ := blk4 Kxy.out
  have lxy := Kxy.out.lt
  obtain ⟨yx0, yx1, yx2, yx3⟩ := blk4 Kyx.out
  have lyx := Kyx.out.lt
  obtain ⟨p0, p1, p2, p3⟩ := blk4 Kp.out
  have lp := Kp.out.lt
  obtain ⟨q0, q1, q2, q3⟩ := blk4 Kq.out
  have lq := Kq.out.lt
  obtain ⟨al0, al1, al2, al3⟩ := blk4 Kal.out
  have lal := Kal.out.lt
  obtain ⟨sm0, sm1, sm2, sm3⟩ := blk4 Ksm.out
  have lsm := Ksm.out.lt
  go_wp2
  go_ret
  exact ⟨rfl, bnew (bgo' HB12.out HO1.out.below) _⟩
end Go.Proofs.YtpoaomjpbjcmbaaDoor
