/-
  Package snap: one thread alone: a Scan tells what was put last; plain laws.
-/
import Derived.Test.YtabmkjokeeakdaaDoorSnapLaw
namespace Go.Proofs.YtabmkjokeeakdaaDoor
open Go.RowKit
set_option linter.unusedVariables false

def nW : Int := 1048576
/-- a Scan that will not go back, and what it has told -/
structure SGt (n : Nat) (ws : List Int) (t : Th) : Prop where
  gd : SGd n ws t
  nil : t.pc ≤ 4 * n + 1 → t.told = []
  told : 4 * n + 1 ≤ t.pc → t.told = (List.range ((t.pc - (4 * n + 1)) / 2)).map fun i : Nat => Int.tmod (vget ws i) 1048576
  v : 4 * n + 1 ≤ t.pc → (t.pc - (4 * n + 1)) % 2 = 1 → vget t.regs ((n : Int) + 4) = Int.tmod (vget ws (((t.pc - (4 * n + 1)) / 2 : Nat) : Int)) 1048576
theorem snext_told {n : Nat} (h1 : 1 ≤ n) (h4 : n ≤ 4) {t : Th} {ws : List Int} (h : SGt n ws t) : (snext n t ws).told = (if (snext n t ws).pc ≤ 4 * n + 1 then [] else (List.range (((snext n t ws).pc - (4 * n + 1)) / 2)).map fun i : Nat => Int.tmod (vget ws i) 1048576) ∧ (4 * n + 1 ≤ (snext n t ws).pc → ((snext n t ws).pc - (4 * n + 1)) % 2 = 1 → vget (snext n t ws).regs ((n : Int) + 4) = Int.tmod (vget ws ((((snext n t ws).pc - (4 * n + 1)) / 2 : Nat) : Int)) 1048576) := by
  obtain ⟨regs, pc, told, err, over⟩ := t
  obtain ⟨⟨⟨a1, a2, a3, a4, a5, a6, a7⟩, b1, b2, b3, b4⟩, c1, c2, c3⟩ := h
  simp only at a1 a2 a3 a4 a5 a6 a7 b1 b2 b3 b4 c1 c2 c3
  subst a1 a2
  unfold snext
  simp only
  rw [if_neg (by omega)]
  by_cases e1 : pc < n + 1
  · rw [if_pos e1]
    simp only
    exact ⟨by rw [if_pos (by omega)]; exact c1 (by omega), fun h => by omega⟩
  rw [if_neg e1]
  by_cases e2 : pc < 4 * n + 1
  · rw [if_pos e2]
    have hn := c1 (by omega)
    by_cases e3 : (pc - (n + 1)) % 3 = 0
    · rw [if_pos e3]; simp only
      exact ⟨by rw [if_pos (by omega)]; exact hn, fun h h2 => by omega⟩
    rw [if_neg e3]
    by_cases e4 : (pc - (n + 1)) % 3 = 1
    · rw [if_pos e4]; simp only
      exact ⟨by rw [if_pos (by omega)]; exact hn, fun h h2 => by omega⟩
    rw [if_neg e4]; simp only
    by_cases hz : vget regs ((n : Int) + 3) = 0
    · rw [if_pos hz]; exact ⟨by rw [if_pos (by omega)]; exact hn, fun h h2 => by omega⟩
    · rw [if_neg hz]; exact ⟨by rw [if_pos (by omega)]; exact hn, fun h h2 => by omega⟩
  rw [if_neg e2]
  have ht := c2 (by omega)
  by_cases e3 : (pc - (4 * n + 1)) % 2 = 0
  · rw [if_pos e3]; simp only
    refine ⟨?_, fun _ _ => ?_⟩
    · rw [if_neg (by omega), ht, show (pc + 1 - (4 * n + 1)) / 2 = (pc - (4 * n + 1)) / 2 by omega]
    · rw [nv_eq _ _ (by rw [a4]; omega), b2 ((pc - (4 * n + 1)) / 2) (by omega) (by omega), show (pc + 1 - (4 * n + 1)) / 2 = (pc - (4 * n + 1)) / 2 by omega]
  rw [if_neg e3]; simp only
  refine ⟨?_, fun _ h2 => by omega⟩
  rw [if_neg (by omega), ht, c3 (by omega) (by omega), show (pc + 1 - (4 * n + 1)) / 2 = (pc - (4 * n + 1)) / 2 + 1 by omega, List.range_succ, List.map_append]
  rfl
theorem SGt.next {n : Nat} (h1 : 1 ≤ n) (h4 : n ≤ 4) {t : Th} {ws : List Int} (h : SGt n ws t) (ho : (snext n t ws).over = false) : SGt n ws (snext n t ws) ∧ (snext n t ws).pc = t.pc + 1 := by
  obtain ⟨g1, g2⟩ := h.gd.next h1 h4 ho
  obtain ⟨g3, g4⟩ := snext_told h1 h4 h
  refine ⟨⟨g1, fun hp => by rw [g3, if_pos hp], fun hp => ?_, g4⟩, g2⟩
  rw [g3]
  split
  · rename_i hq
    rw [show ((snext n t ws).pc - (4 * n + 1)) / 2 = 0 by omega]; rfl
  · rfl
/-- what a Scan tells of the words -/
def ntold (n : Nat) (ws : List Int) : List Int := (List.range n).map fun i : Nat => Int.tmod (vget ws i) 1048576
theorem SGt.ends {n : Nat} (h1 : 1 ≤ n) (h4 : n ≤ 4) {ws : List Int} (hw : ws.length = n) : ∀ (q : Nat) (t : Th), SGt n ws t → 6 * n + 1 ≤ t.pc + q → ∃ m t', m ≤ q ∧ Ends (nscanCode n) t ws m t' ws ∧ t'.err = 0 ∧ t'.told = ntold n ws
  | 0, t, h, hq => by have := h.gd.get.pc; omega
  | q + 1, t, h, hq => by
    have hs := nsstep h1 h4 h.gd.get hw
    cases ho : (snext n t ws).over with
    | true =>
      obtain ⟨g1, g2⟩ := snext_over ws h.gd.get ho
      refine ⟨1, _, by omega, .last hs ho, g2, ?_⟩
      obtain ⟨g3, _⟩ := snext_told h1 h4 h
      have hp : (snext n t ws).pc = t.pc + 1 := by
        unfold snext
        simp only
        rw [if_neg (by omega), if_neg (by omega), if_neg (by omega)]
        split <;> rfl
      rw [g3, if_neg (by omega), hp, show (t.pc + 1 - (4 * n + 1)) / 2 = n by omega]
      rfl
    | false =>
      obtain ⟨g1, g2⟩ := h.next h1 h4 ho
      obtain ⟨m, t', m1, m2, m3⟩ := SGt.ends h1 h4 hw q _ g1 (by omega)
      exact ⟨m + 1, t', by omega, .more hs ho m2, m3⟩
theorem scan_alone {n : Nat} (h1 : 1 ≤ n) (h4 : n ≤ 4) {ws : List Int} (hw : ws.length = n) : ∃ m t', m ≤ 25 ∧ Ends (nscanCode n) (vbegin (nscanCode n).length []) ws m t' ws ∧ t'.err = 0 ∧ t'.told = ntold n ws := by
  have hg := NGet.begin h1 h4
  have hs := nsstep h1 h4 hg hw
  have hp : (vbegin (nscanCode n).length []).pc = 0 := by
    rcases (show n = 1 ∨ n = 2 ∨ n = 3 ∨ n = 4 by omega) with rfl | rfl | rfl | rfl <;> rfl
  have ht : (vbegin (nscanCode n).length []).told = [] := by
    rcases (show n = 1 ∨ n = 2 ∨ n = 3 ∨ n = 4 by omega) with rfl | rfl | rfl | rfl <;> rfl
  have e : snext n (vbegin (nscanCode n).length []) ws = { (vbegin (nscanCode n).length []) with regs := vset (vbegin (nscanCode n).length []).regs 0 1048576, pc := 1 } := by
    unfold snext
    simp only
    rw [if_pos hp]
  have ho : (snext n (vbegin (nscanCode n).length []) ws).over = false := by rw [e]; exact hg.over
  obtain ⟨g1, g2⟩ := snext_keep h1 h4 ws hg ho
  have hp1 : (snext n (vbegin (nscanCode n).length []) ws).pc = 1 := by rw [e]
  have ht1 : (snext n (vbegin (nscanCode n).length []) ws).told = [] := by rw [e]; exact ht
  obtain ⟨m, t', m1, m2, m3⟩ := SGt.ends h1 h4 hw (6 * n) (snext n (vbegin (nscanCode n).length []) ws) ⟨⟨g1, by omega, fun i _ h => absurd h (by omega), fun h => absurd h (by omega), fun h => absurd h (by omega)⟩, fun _ => ht1, fun h => absurd h (by omega), fun h => absurd h (by omega)⟩ (by omega)
  exact ⟨m + 1, t', by omega, .more hs ho m2, m3⟩
def npT (p v pc : Nat) (r2 r3 r4 : Int) : Th := ⟨(p : Int) :: (v : Int) :: r2 :: r3 :: r4 :: List.replicate 19 0, pc, [], 0, false⟩
theorem npT_ok {n p v pc : Nat} {r2 r3 r4 : Int} (hp : p < n) (hc : pc < 7) (h2 : 1 ≤ pc → r2 = 1048576) : NPut n (npT p v pc r2 r3 r4) :=
  ⟨rfl, rfl, hc, rfl, ⟨by show (0 : Int) ≤ (p : Int); omega, by show (p : Int) < (n : Int); omega⟩, fun h => h2 h⟩
/-- a Put alone -/
theorem put_alone {n p v : Nat} (h4 : n ≤ 4) (hp : p < n) {ws : List Int} (hw : ws.length = n) {x y z : Int} (hx : wrap64 (vget ws p - Int.tmod (vget ws p) 1048576) = x) (hy : wrap64 (x + 1048576) = y) (hz : wrap64 (y + (v : Int)) = z) : ∃ t', Ends nputCode (vbegin nputCode.length [(p : Int), (v : Int)]) ws 7 t' (vset ws p z) ∧ t'.err = 0 ∧ t'.told = [] := by
  obtain ⟨o, ho⟩ : ∃ o, vget ws p = o := ⟨_, rfl⟩
  obtain ⟨q, hq⟩ : ∃ q, Int.tmod o 1048576 = q := ⟨_, rfl⟩
  rw [ho, hq] at hx
  have s0 : vstep nputCode (npT p v 0 0 0 0) ws = (npT p v 1 1048576 0 0, ws) := (npstep h4 (npT_ok hp (by decide) (fun h => absurd h (by decide))) hw).trans rfl
  have s1 : vstep nputCode (npT p v 1 1048576 0 0) ws = (npT p v 2 1048576 o 0, ws) := (npstep h4 (npT_ok hp (by decide) (fun _ => rfl)) hw).trans (by rw [← ho]; rfl)
  have s2 : vstep nputCode (npT p v 2 1048576 o 0) ws = (npT p v 3 1048576 o q, ws) := (npstep h4 (npT_ok hp (by decide) (fun _ => rfl)) hw).trans (by rw [← hq]; rfl)
  have s3 : vstep nputCode (npT p v 3 1048576 o q) ws = (npT p v 4 1048576 x q, ws) := (npstep h4 (npT_ok hp (by decide) (fun _ => rfl)) hw).trans (by rw [← hx]; rfl)
  have s4 : vstep nputCode (npT p v 4 1048576 x q) ws = (npT p v 5 1048576 y q, ws) := (npstep h4 (npT_ok hp (by decide) (fun _ => rfl)) hw).trans (by rw [← hy]; rfl)
  have s5 : vstep nputCode (npT p v 5 1048576 y q) ws = (npT p v 6 1048576 z q, ws) := (npstep h4 (npT_ok hp (by decide) (fun _ => rfl)) hw).trans (by rw [← hz]; rfl)
  have s6 : vstep nputCode (npT p v 6 1048576 z q) ws = ({ npT p v 7 1048576 z q with over := true }, vset ws p z) := (npstep h4 (npT_ok hp (by decide) (fun _ => rfl)) hw).trans rfl
  exact ⟨_, .more s0 rfl (.more s1 rfl (.more s2 rfl (.more s3 rfl (.more s4 rfl (.more s5 rfl (.last s6 rfl)))))), rfl, rfl⟩
/-! ### ten calls -/
/-- what each part was put last -/
def nwant (n : Nat) (pv : List (Nat × Nat)) : List Int := pv.foldl (fun l x => l.set x.1 (x.2 : Int)) (List.replicate n 0)
def ncall (x : Nat × Nat) : VCall := ⟨0, [(x.1 : Int), (x.2 : Int)]⟩
def ncalls (pv : List (Nat × Nat)) : List VCall := ⟨1, []⟩ :: pv.map ncall
def nmachT (n : Nat) (pv : List (Nat × Nat)) : Mach := ⟨List.replicate n 0, [nputCode, nscanCode n], [ncalls pv ++ [⟨1, []⟩]]⟩
theorem nwant_len (n : Nat) (pv : List (Nat × Nat)) : (nwant n pv).length = n := by
  unfold nwant
  have : ∀ (l : List (Nat × Nat)) (z : List Int), (l.foldl (fun l x => l.set x.1 (x.2 : Int)) z).length = z.length := by
    intro l
    induction l with
    | nil => intro z; rfl
    | cons x l ih => intro z; rw [List.foldl_cons, ih, List.length_set]
  rw [this, List.length_replicate]
theorem nwant_snoc (n : Nat) (pv : List (Nat × Nat)) (x : Nat × Nat) : nwant n (pv ++ [x]) = vset (nwant n pv) x.1 (x.2 : Int) := by
  unfold nwant vset
  rw [List.foldl_append, Int.toNat_natCast]; rfl
/-- the words behind j calls -/
structure NI (n : Nat) (pv : List (Nat × Nat)) (j : Nat) (ws : List Int) : Prop where
  len : ws.length = n
  at_ : ∀ i : Nat, i < n → ∃ q : Nat, q ≤ j ∧ vget ws i = 1048576 * (q : Int) + vget (nwant n (pv.take (j - 1))) i ∧ 0 ≤ vget (nwant n (pv.take (j - 1))) i ∧ vget (nwant n (pv.take (j - 1))) i < 1048576
theorem NI.told {n : Nat} {pv : List (Nat × Nat)} {j : Nat} {ws : List Int} (h : NI n pv j ws) : ntold n ws = nwant n (pv.take (j - 1)) := by
  refine List.ext_getElem? fun i => ?_
  unfold ntold
  rw [List.getElem?_map]
  by_cases hi : i < n
  · obtain ⟨q, h1, h2, h3, h4⟩ := h.at_ i hi
    rw [List.getElem?_range hi]
    show some (Int.tmod (vget ws i) 1048576) = _
    have e : Int.tmod (vget ws i) 1048576 = vget (nwant n (pv.take (j - 1))) i := by
      rw [h2, Int.tmod_eq_emod_of_nonneg (by omega)]; omega
    rw [e]
    unfold vget
    rw [Int.toNat_natCast, List.getD_eq_getElem?_getD, List.getElem?_eq_getElem (by rw [nwant_len]; exact hi)]
    rfl
  · rw [List.getElem?_eq_none (by simp; omega), List.getElem?_eq_none (by rw [nwant_len]; omega)]; rfl
theorem snap_series {n : Nat} (h1 : 1 ≤ n) (h4 : n ≤ 4) {pv : List (Nat × Nat)} (hl : pv.length = 8) (hp : ∀ x ∈ pv, x.1 < n ∧ x.2 < 1048576) :
    Series (nmachT n pv) 0 (ncalls pv ++ [⟨1, []⟩]) 10 25 (NI n pv) (fun j => if j = 0 ∨ j = 9 then nwant n (pv.take (j - 1)) else []) where
  th := rfl
  call := by
    intro j ws hj hI
    have hl9 : (ncalls pv).length = 9 := by unfold ncalls; rw [List.length_cons, List.length_map, hl]
    by_cases hs : j = 0 ∨ j = 9
    · obtain ⟨m, t', m1, m2, m3, m4⟩ := scan_alone h1 h4 hI.len
      refine ⟨⟨1, []⟩, m, t', ws, ?_, m1, m2, ⟨hI.len, fun i hi => ?_⟩, m3, ?_⟩
      · rcases hs with rfl | rfl
        · rfl
        · rw [List.getElem?_append_right (by omega), hl9]; rfl
      · obtain ⟨q, g1, g2, g3, g4⟩ := hI.at_ i hi
        have e : pv.take (j + 1 - 1) = pv.take (j - 1) := by
          rcases hs with rfl | rfl
          · rfl
          · rw [List.take_of_length_le (by omega), List.take_of_length_le (by omega)]
        rw [e]
        exact ⟨q, by omega, g2, g3, g4⟩
      · rw [m4, hI.told, if_pos hs]
    · obtain ⟨x, hx⟩ : ∃ x, pv[j - 1]? = some x := ⟨_, List.getElem?_eq_getElem (by omega)⟩
      obtain ⟨x1, x2⟩ := hp x (List.mem_of_getElem? hx)
      obtain ⟨a, b⟩ := x
      simp only at x1 x2
      obtain ⟨q, g1, g2, g3, g4⟩ := hI.at_ a x1
      have w1 : wrap64 (vget ws a - Int.tmod (vget ws a) 1048576) = 1048576 * (q : Int) := by
        rw [g2, Int.tmod_eq_emod_of_nonneg (by omega)]
        unfold wrap64
        omega
      have w2 : wrap64 (1048576 * (q : Int) + 1048576) = 1048576 * ((q : Int) + 1) := by unfold wrap64; omega
      have w3 : wrap64 (1048576 * ((q : Int) + 1) + (b : Int)) = 1048576 * ((q + 1 : Nat) : Int) + (b : Int) := by unfold wrap64; omega
      obtain ⟨t', m2, m3, m4⟩ := put_alone h4 x1 hI.len w1 w2 w3
      have hc : (ncalls pv ++ [(⟨1, []⟩ : VCall)])[j]? = some (ncall (a, b)) := by
        rw [List.getElem?_append_left (by omega)]
        unfold ncalls
        rw [show j = (j - 1) + 1 by omega, List.getElem?_cons_succ, List.getElem?_map, hx]; rfl
      have e : pv.take (j + 1 - 1) = pv.take (j - 1) ++ [(a, b)] := by
        rw [show j + 1 - 1 = (j - 1) + 1 by omega, List.take_add_one, hx]; rfl
      refine ⟨ncall (a, b), 7, t', _, hc, by decide, m2, ⟨by unfold vset; rw [List.length_set]; exact hI.len, fun i hi => ?_⟩, m3, by rw [m4, if_neg hs]⟩
      rw [e, nwant_snoc]
      by_cases hia : i = a
      · subst hia
        rw [nv_eq _ _ (by rw [hI.len]; omega), nv_eq _ _ (by rw [nwant_len]; omega)]
        exact ⟨q + 1, by omega, rfl, by simp only; omega, by simp only; omega⟩
      · rw [nv_ne _ _ (by omega), nv_ne _ _ (by omega)]
        obtain ⟨q', g1', g2', g3', g4'⟩ := hI.at_ i hi
        exact ⟨q', by omega, g2', g3', g4'⟩
theorem NI.start {n : Nat} (pv : List (Nat × Nat)) : NI n pv 0 (nmachT n pv).words := by
  refine ⟨by simp [nmachT], fun i hi => ⟨0, Nat.le_refl _, ?_⟩⟩
  have e : vget (nwant n (pv.take (0 - 1))) i = 0 := by
    show vget (List.replicate n (0 : Int)) i = 0
    unfold vget
    rw [Int.toNat_natCast, List.getD_eq_getElem?_getD, List.getElem?_replicate, if_pos hi]; rfl
  have e2 : vget (nmachT n pv).words i = 0 := e
  rw [e, e2]
  exact ⟨by omega, by omega, by omega⟩
/-- what the law wants to know of the run -/
structure STell (n : Nat) (pv : List (Nat × Nat)) (ds : List Dg) : Prop where
  len : ds.length = 10
  first : ∀ d, ds[0]? = some d → d.told = List.replicate n 0
  last : ∀ d, ds[9]? = some d → (∃ e, d.e = some e) ∧ d.told = nwant n pv
theorem snap_tells {n : Nat} (h1 : 1 ≤ n) (h4 : n ≤ 4) {pv : List (Nat × Nat)} (hl : pv.length = 8) (hp : ∀ x ∈ pv, x.1 < n ∧ x.2 < 1048576) :
    STell n pv (doings (play (nmachT n pv) (List.replicate 1140 0)).evs) ∧ NoErr (play (nmachT n pv) (List.replicate 1140 0)).evs := by
  obtain ⟨h, hN, _⟩ := (snap_series h1 h4 hl hp).play (NI.start pv) (by unfold ncalls; rw [List.length_append, List.length_cons, List.length_map, hl]; rfl) (L := 1140) (by decide)
  refine ⟨⟨h.len, fun d hd => ?_, fun d hd => ?_⟩, hN⟩
  · obtain ⟨_, _, _, g⟩ := h.at_ 0 d hd
    rw [g]; rfl
  · obtain ⟨_, _, g1, g⟩ := h.at_ 9 d hd
    refine ⟨g1, ?_⟩
    rw [g, if_pos (.inr rfl), List.take_of_length_le (by omega)]
end Go.Proofs.YtabmkjokeeakdaaDoor
