/-
  BitsSplit: a field is two: its walk.
-/
import Derived.Test.YtejpcibcllnheaaBitsLaw
namespace Go.Proofs.Ytejpcibcllnheaa
open Go.RowKit
set_option linter.unusedVariables false

theorem bitsOf_split (k low v : Nat) : bitsOf (k + low) v = bitsOf k (v / 2 ^ low) ++ bitsOf low (v % 2 ^ low) := by
  unfold bitsOf
  rw [List.range_add, List.map_append, List.map_map]
  congr 1
  · refine List.map_congr_left fun i hi => ?_
    have hi := List.mem_range.1 hi
    rw [Nat.testBit_div_two_pow]
    congr 1; omega
  · refine List.map_congr_left fun i hi => ?_
    have hi := List.mem_range.1 hi
    simp only [Function.comp]
    rw [Nat.testBit_mod_two_pow]
    rw [show k + low - 1 - (k + i) = low - 1 - i by omega]
    simp; omega
theorem fieldBits_append (a b : List (Nat × Nat)) : fieldBits (a ++ b) = fieldBits a ++ fieldBits b := by simp [fieldBits]
theorem list_split {α : Type} (l : List α) (i : Nat) (x : α) (h : l[i]? = some x) : l = l.take i ++ x :: l.drop (i + 1) := by
  obtain ⟨h1, h2⟩ := List.getElem?_eq_some_iff.1 h
  rw [← h2, List.getElem_cons_drop, List.take_append_drop]
theorem fieldBits_split (y : List (Nat × Nat)) (i p v k low : Nat) (h : y[i]? = some (p, v)) (hp : p = k + low) :
    fieldBits (y.take i ++ [(k, v / 2 ^ low), (low, v % 2 ^ low)] ++ y.drop (i + 1)) = fieldBits y := by
  have e := list_split y i (p, v) h
  conv => rhs; rw [e]
  rw [List.append_assoc, fieldBits_append, fieldBits_append, fieldBits_append]
  congr 1
  rw [show fieldBits ((p, v) :: y.drop (i + 1)) = bitsOf p v ++ fieldBits (y.drop (i + 1)) from rfl, show fieldBits [(k, v / 2 ^ low), (low, v % 2 ^ low)] = bitsOf k (v / 2 ^ low) ++ bitsOf low (v % 2 ^ low) by simp [fieldBits], hp, bitsOf_split]
theorem Ow.cellF {w0 w : World} {b n c i : Nat} {l : List (Nat × Nat)} {f : Nat × Nat} (h : Ow w0 w 41 2 gF (.slice (some ⟨b, 0, none⟩) n c) l) (hi : l[i]? = some f) :
    w.cell? ⟨b, i * 2, none⟩ = some (.int .i64 (f.1 : Int)) ∧ w.cell? ⟨b, i * 2 + 1, none⟩ = some (.int .i64 (f.2 : Int)) := by
  have hl : i < l.length := (List.getElem?_eq_some_iff.1 hi).1
  have hn : n = l.length := by obtain ⟨A', c', h1, _⟩ := h.form; injection h1
  obtain ⟨ad, e, hc⟩ := h.sl.2 (by omega)
  injection e with e; subst e
  have h0 := hc (i * 2 + 0) _ (flatMap_at gF 2 (fun _ => rfl) l i 0 _ hi (by decide))
  have h1 := hc (i * 2 + 1) _ (flatMap_at gF 2 (fun _ => rfl) l i 1 _ hi (by decide))
  rw [ad_at] at h0 h1
  exact ⟨h0, h1⟩
theorem Ow.ad {α : Type} {w0 w : World} {e sz : Nat} {g : α → List Value} {A : Option Addr} {n c : Nat} {l : List α} (h : Ow w0 w e sz g (.slice A n c) l) (hl : 0 < l.length) : ∃ b, A = some ⟨b, 0, none⟩ := by
  rcases h.own.2 with ⟨_, h0⟩ | ⟨b, cap, cur, hv, _⟩
  · omega
  · injection hv with e1; exact ⟨b, e1⟩

set_option maxRecDepth 100000 in
set_option maxHeartbeats 2000000 in
theorem law_bitsSplit (A : Option Addr) (n c : Nat) (ws : List Int) (B : Option Addr) (m d : Nat) (vs : List Int) (at_ cut : Int) (w : World)
    (hn : n ≤ c) (hc : c ≤ maxLen) (_ : c * 8 ≤ 140737488351232) (hA : Sl w 1 A n (ints ws)) (hws : ∀ x ∈ ws, -9223372036854775808 ≤ x ∧ x ≤ 9223372036854775807)
    (hm : m ≤ d) (hd : d ≤ maxLen) (_ : d * 8 ≤ 140737488351232) (hB : Sl w 1 B m (ints vs)) (hvs : ∀ x ∈ vs, -9223372036854775808 ≤ x ∧ x ≤ 9223372036854775807)
    (a0 : -9223372036854775808 ≤ at_) (a1 : at_ ≤ 9223372036854775807) (b0 : -9223372036854775808 ≤ cut) (b1 : cut ≤ 9223372036854775807) :
    Calls Try.prog 8 #[.slice A n c, .slice B m d, .int .i64 at_, .int .i64 cut] w fun e w' => e = .returned (.bool true) ∧ Below w.heap.size w w' := by
  have HA := hid hA; have HB := hid hB; have HWS := hid hws; have HVS := hid hvs; clear hA hB hws hvs
  go_enter Try.func8, Try.ntmps8
  go_wp2_with fail
  refine (fields_of A B n c m d 30 ws vs w (by omega) (by omega) (by omega) HA.out HB.out HWS.out HVS.out).mono ?_
  rintro e w1 ⟨v1, v2, rfl, ho1, _⟩
  have HO1 := hid ho1; clear ho1
  have HF1 := hid (fieldsOf_ok ws vs 30)
  have hl1 : (fieldsOf ws vs 30).length ≤ 30 := by unfold fieldsOf; rw [List.length_mapIdx, List.length_take]; omega
  generalize fieldsOf ws vs 30 = y1 at *
  obtain ⟨y, hy⟩ : ∃ y, y1 ++ [(7, 93)] = y := ⟨_, rfl⟩
  have hyl : y.length = y1.length + 1 := by rw [← hy]; simp
  have hy1 : 1 ≤ y.length := by omega
  have hy2 : y.length ≤ 31 := by omega
  have HF := hid (show ∀ f ∈ y, f.1 ≤ 60 ∧ f.2 < 2 ^ f.1 by
    intro f hf; rw [← hy] at hf
    rcases List.mem_append.1 hf with h | h
    · exact HF1.out f h
    · simp at h; subst h; decide)
  have HBL := hid (show 7 ≤ (fieldBits y).length by rw [← hy, fieldBits_append, List.length_append]; show 7 ≤ _ + (bitsOf 7 93 ++ []).length; rw [List.append_nil, bitsOf_len]; omega)
  have HY := hid hy; clear hy hyl
  go_wp2_with (at_builtin; refine wpList_appY elmF gF_one rfl (.tmp 25) (.tmp 27) rfl v1 y1 rfl (HO1.out.alloc _) [(7, 93)] y HY rfl (Sl.fresh w1 #[.int .i64 7, .int .i64 93] 41 2 1 rfl) rfl (by simp only [maxLen]; omega) (by omega) ?_; intro A2 c2 w2 hn2 hc2 HO2 _ _)
  refine (picked at_ _ w2 (by omega) a0 a1 (by omega)).mono ?_
  rintro e w2 ⟨rfl, rfl⟩
  have hi := pk_lt at_ (y.length : Int) (by omega)
  generalize pk at_ (y.length : Int) = i at *
  obtain ⟨⟨p, v⟩, hf⟩ : ∃ f, y[i]? = some f := ⟨_, List.getElem?_eq_getElem (by omega)⟩
  have HI := hid hf; clear hf
  obtain ⟨hp, hv⟩ := HF.out _ (List.mem_of_getElem? HI.out)
  dsimp only at hp hv
  obtain ⟨g2, rfl⟩ := HO2.out.ad (by omega)
  obtain ⟨c0, c1⟩ := HO2.out.cellF HI.out
  dsimp only at c0 c1
  have HV := hid hv; clear hv
  go_wp2_with fail
  refine (picked cut _ w2 (by omega) b0 b1 (by omega)).mono ?_
  rintro e w2 ⟨rfl, rfl⟩
  have hk := pk_lt cut ((p : Int) + 1) (by omega)
  generalize pk cut ((p : Int) + 1) = k at *
  obtain ⟨low, hlow⟩ : ∃ low : Nat, p = k + low := ⟨p - k, by omega⟩
  have el : (p : Int) - (k : Int) = (low : Int) := by omega
  have hlow60 : low ≤ 60 := by omega
  have hv63 : v < 9223372036854775808 := Nat.lt_of_lt_of_le HV.out (Nat.le_trans (Nat.pow_le_pow_right (by decide) hp) (by decide))
  have hp2 : 2 ^ low ≤ 2 ^ 60 := Nat.pow_le_pow_right (by decide) hlow60
  have hp1 : 1 ≤ 2 ^ low := Nat.pow_pos (by decide)
  have e2 : ((2 : Int) ^ low) = ((2 ^ low : Nat) : Int) := by rw [Int.natCast_pow]; rfl
  have EW : IntKind.i64.wrap ((2 : Int) ^ low) = (2 : Int) ^ low := IntWalk.i64_in _ (by rw [e2]; omega)
  obtain ⟨q1, hq1⟩ : ∃ q1, v / 2 ^ low = q1 := ⟨_, rfl⟩
  obtain ⟨q2, hq2⟩ : ∃ q2, v % 2 ^ low = q2 := ⟨_, rfl⟩
  have EA : bits .and .i64 (v : Int) ((2 : Int) ^ low - 1) = (q2 : Int) := by
    rw [e2, show ((2 ^ low : Nat) : Int) - 1 = ((2 ^ low - 1 : Nat) : Int) by omega, i64_and _ _ hv63 (by omega), Nat.and_two_pow_sub_one_eq_mod, hq2]
  have ED : (v : Int) / (2 : Int) ^ low = (q1 : Int) := by
    rw [← hq1, Int.natCast_ediv, e2]
  have EM : IntKind.i64.wrap ((2 : Int) ^ low - 1) = (2 : Int) ^ low - 1 := IntWalk.i64_in _ (by rw [e2]; omega)
  have EX := hid (fieldBits_split y i p v k low HI.out (by rw [hlow]))
  have HQ := hid (show v / 2 ^ low < 2 ^ k ∧ v % 2 ^ low < 2 ^ low from ⟨by rw [Nat.div_lt_iff_lt_mul (Nat.pow_pos (by decide)), ← Nat.pow_add, ← hlow]; exact HV.out, Nat.mod_lt _ (Nat.pow_pos (by decide))⟩)
  rw [hq1, hq2] at EX HQ
  clear hq1 hq2
  have HLOW := hid hlow; clear hlow
  clear e2 hp1 hp2
  obtain ⟨t1, ht1⟩ : ∃ t1, y.take i = t1 := ⟨_, rfl⟩
  obtain ⟨t2, ht2⟩ : ∃ t2, t1 ++ [(k, q1), (low, q2)] = t2 := ⟨_, rfl⟩
  have hl2 : t1.length ≤ 31 ∧ t2.length ≤ 33 := by
    rw [← ht2, List.length_append, ← ht1, List.length_take]; simp; omega
  obtain ⟨hl2, hl3⟩ := hl2
  have HT1 := hid ht1; have HT2 := hid ht2; clear ht1 ht2
  have i1 : (0 : Int) ≤ (i : Int) := by omega
  have i2 : (i : Int) < (y.length : Int) := by omega
  have i3 : i ≤ c2 := by omega
  have hil : i ≤ y.length := by omega
  have ht1l := hid (show t1.length = i by rw [← HT1.out, List.length_take]; omega)
  go_wp2_with fail
  go_region_held3 (fun w' => Below w2.heap.size w2 w' ∧ w'.cell? ⟨g2, i * 2, none⟩ = some (.int .i64 (p : Int)) ∧ w'.cell? ⟨g2, i * 2 + 1, none⟩ = some (.int .i64 (v : Int)))
    ((refine sees2 ?_ c0 c1; (repeat (first | exact (‹Below w2.heap.size w2 _ ∧ _ ∧ _›).1 | exact bnil _ | refine bgo' HN2.out.below ?_ | refine bgo' HN1.out.below ?_ | refine Below.drew ?_ | refine bnew ?_ _))))
    (first
      | (refine step_appY elmF gF_one rfl (.const (.slice none 0 0)) (.tmp 50) rfl (.slice none 0 0) [] rfl (Ow.nil _ _ _ _) t1 t1 (hid (List.nil_append _)) rfl (by rw [← HT1.out]; exact (HO2.out.step (‹Below w2.heap.size w2 _ ∧ _ ∧ _›).1).sl.preG (fun _ => rfl) hil) ht1l.out (by simp only [maxLen]; omega) (by omega) ?_; intro A3 c3 w3 _ _ HN1 _)
      | (refine step_appY elmF gF_one rfl (.tmp 51) (.tmp 72) rfl (.slice A3 t1.length c3) t1 rfl HN1.out [(k, q1), (low, q2)] t2 HT2 rfl (Sl.below (Sl.drew (Sl.fresh' _ #[.int .i64 (k : Int), .int .i64 (q1 : Int), .int .i64 (low : Int), .int .i64 (q2 : Int)] 41 2 2 _ rfl rfl)) HN1.out.below) rfl (by simp only [maxLen]; omega) (by omega) ?_; intro A4 c4 w4 _ _ HN2 _)
      | (refine step_appY elmF gF_one rfl (.tmp 51) (.tmp 72) rfl (.slice A3 t1.length c3) t1 rfl (HN1.out.alloc _) [(k, q1), (low, q2)] t2 HT2 rfl (Sl.fresh' _ #[.int .i64 (k : Int), .int .i64 (q1 : Int), .int .i64 (low : Int), .int .i64 (q2 : Int)] 41 2 2 _ rfl rfl) rfl (by simp only [maxLen]; omega) (by omega) ?_; intro A4 c4 w4 _ _ HN2 _)
      )
  all_goals
    have HZ : Hid (Ow w2 w4 41 2 gF (.slice A4 t2.length c4) t2) := by
      first
        | exact HN2.out.from (bnil w2).drew
        | exact HN2.out.from (bnew (bnil w2) _).drew
    clear HN1 HN2 c0 c1 EA ED EM EW
    have HO4 := hid (HO2.out.step HZ.out.below)
    obtain ⟨t3, ht3⟩ : ∃ t3, t2 ++ y.drop (i + 1) = t3 := ⟨_, rfl⟩
    have hl4 : t3.length ≤ 64 := by rw [← ht3, List.length_append, List.length_drop]; omega
    have EX3 := hid (show fieldBits t3 = fieldBits y by rw [← ht3, ← HT2.out, ← HT1.out]; exact EX.out)
    have HF3 := hid (show ∀ f ∈ t3, f.1 ≤ 60 ∧ f.2 < 2 ^ f.1 by
      intro f hf
      rw [← ht3, ← HT2.out, ← HT1.out] at hf
      rcases List.mem_append.1 hf with h | h
      · rcases List.mem_append.1 h with h | h
        · exact HF.out f (List.mem_of_mem_take h)
        · simp at h
          rcases h with rfl | rfl
          · exact ⟨by have := HLOW.out; omega, HQ.out.1⟩
          · exact ⟨hlow60, HQ.out.2⟩
      · exact HF.out f (List.mem_of_mem_drop h))
    have HT3 := hid ht3; clear ht3
    have j1 : (0 : Int) ≤ (i : Int) + 1 := by omega
    have j2 : (i : Int) + 1 ≤ (y.length : Int) := by omega
    have HDL := hid (show (y.drop (i + 1)).length = y.length - (i + 1) by rw [List.length_drop])
    have key : Hid (∃ src : Option Addr, src = (if c2 = i + 1 then some ⟨g2, 0, none⟩ else some ⟨g2, (i + 1) * 2, none⟩) ∧ Sl w4 2 src (y.length - (i + 1)) ((y.drop (i + 1)).flatMap gF)) := by
      refine ⟨_, rfl, ?_⟩
      have h := Sl.cutG (g := gF) (sz := 2) (k := i + 1) (cap := c2) (fun _ => rfl) HO4.out.sl (by omega) hn2
      by_cases hcap : c2 = i + 1
      · rw [if_pos hcap] at h ⊢; exact h
      · rw [if_neg hcap] at h ⊢
        simp only [Option.map_some, ad_at] at h; exact h
    by_cases hcap : c2 = i + 1
    all_goals
      obtain ⟨src, hsrc, hS⟩ := key.out
      first
        | rw [if_pos hcap] at hsrc
        | rw [if_neg hcap] at hsrc
      subst hsrc
      have HS := hid hS; clear hS key
      go_wp2_with (at_builtin; refine wpList_appY elmF gF_one rfl (.tmp 74) (.tmp 78) rfl (.slice A4 t2.length c4) t2 rfl HZ.out (y.drop (i + 1)) t3 HT3 rfl HS.out HDL.out (by simp only [maxLen]; omega) (by omega) ?_; intro A5 c5 w5 _ _ HN5 HG5 _)
      have HO5 := hid (HO2.out.step HN5.out.below)
      clear HG5
      refine (bits_write _ _ _ y w5 (by omega) HF.out HO5.out.sl).mono ?_
      rintro e w6 ⟨va, rfl, hoa⟩
      obtain ⟨A6, c6, rfl, hn6, hc6⟩ := hoa.form
      have HOa := hid hoa; clear hoa
      have hpl := pack_len (fieldBits y)
      have hpl1 : 0 < (pack (fieldBits y)).length := by have := HBL.out; omega
      have hpl2 : (pack (fieldBits y)).length ≤ 1000 := by
        have := fieldBits_len y (fun f hf => (HF.out f hf).1); omega
      clear hpl
      generalize hgb : pack (fieldBits y) = P at *
      have HGB := hid hgb; clear hgb
      go_wp2_with fail
      refine (bits_write _ _ _ t3 w6 (by omega) HF3.out (HN5.out.step HOa.out.below).sl).mono ?_
      rintro e w7 ⟨vb, rfl, hob⟩
      rw [EX3.out, HGB.out] at hob
      obtain ⟨A7, c7, rfl, hn7, hc7⟩ := hob.form
      have HOb := hid hob; clear hob
      have j3 : (0 : Int) < (P.length : Int) := by omega
      go_wp2_with fail
      refine (same_bytes A6 A7 P.length c6 c7 P w7 (by omega) (HOa.out.step HOb.out.below).sl HOb.out.sl).mono ?_
      rintro e w8 ⟨rfl, hb8⟩
      have HEND := hid (bgo (bgo (bgo (bgo HO2.out.below HN5.out.below) HOa.out.below) HOb.out.below) hb8)
      clear hb8
      go_wp2
      go_ret
      exact ⟨rfl, HEND.out⟩
end Go.Proofs.Ytejpcibcllnheaa
