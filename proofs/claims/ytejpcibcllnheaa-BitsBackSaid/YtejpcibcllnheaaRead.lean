/-
  bits.Read: its walk; what was written is read.
-/
import Derived.Test.YtejpcibcllnheaaEye
namespace Go.Proofs.Ytejpcibcllnheaa
open Go.RowKit
set_option linter.unusedVariables false

def readsAt (l : List UInt8) : Nat → List Nat → List Int
  | _, [] => []
  | i, k :: ks => (numOf (seen l i k) : Int) :: readsAt l (i + k) ks
theorem readsAt_snoc (l : List UInt8) (k : Nat) : ∀ (i : Nat) (ks : List Nat), readsAt l i (ks ++ [k]) = readsAt l i ks ++ [(numOf (seen l (i + ks.sum) k) : Int)]
  | i, [] => rfl
  | i, x :: ks => by
    rw [List.cons_append, readsAt, readsAt, readsAt_snoc l k (i + x) ks, List.sum_cons, Nat.add_assoc, List.cons_append]
theorem readsAt_len (l : List UInt8) : ∀ (i : Nat) (ks : List Nat), (readsAt l i ks).length = ks.length
  | _, [] => rfl
  | i, k :: ks => by rw [readsAt, List.length_cons, readsAt_len l (i + k) ks, List.length_cons]
theorem reads_back (l : List UInt8) : ∀ (x : List (Nat × Nat)) (i : Nat) (rest : List Bool), (unp l).drop i = fieldBits x ++ rest → (∀ f ∈ x, f.2 < 2 ^ f.1) →
    readsAt l i (x.map Prod.fst) = x.map fun f => (f.2 : Int)
  | [], _, _, _, _ => rfl
  | (k, v) :: x, i, rest, h, hx => by
    have e : fieldBits ((k, v) :: x) = bitsOf k v ++ fieldBits x := rfl
    rw [e, List.append_assoc] at h
    have h1 : seen l i k = bitsOf k v := by unfold seen; rw [h, List.take_left' (bitsOf_len k v)]
    have h2 : (unp l).drop (i + k) = fieldBits x ++ rest := by rw [← List.drop_drop, h, List.drop_left' (bitsOf_len k v)]
    rw [List.map_cons, List.map_cons, readsAt, h1, numOf_bitsOf k v (hx _ List.mem_cons_self), reads_back l x (i + k) rest h2 fun f hf => hx f (List.mem_cons_of_mem _ hf)]
theorem unp_append (a b : List UInt8) : unp (a ++ b) = unp a ++ unp b := by simp [unp]
theorem fieldBits_sum (x : List (Nat × Nat)) : (fieldBits x).length = (x.map Prod.fst).sum := by
  induction x with
  | nil => rfl
  | cons f x ih =>
    show (bitsOf f.1 f.2 ++ fieldBits x).length = _
    rw [List.length_append, bitsOf_len, ih, List.map_cons, List.sum_cons]
theorem reads_written (x : List (Nat × Nat)) (more : List UInt8) (hx : ∀ f ∈ x, f.2 < 2 ^ f.1) : readsAt (pack (fieldBits x) ++ more) 0 (x.map Prod.fst) = x.map fun f => (f.2 : Int) :=
  reads_back _ x 0 _ (by rw [List.drop_zero, unp_append, unp_pack, List.append_assoc]) hx

theorem Ow.chg {α : Type} {w0 w w' : World} {e sz : Nat} {g : α → List Value} {v : Value} {l : List α} {M : Nat → Prop} (h : Ow w0 w e sz g v l) (hc : Chg M w w') (hM : ∀ k, v.ownBlock = some k → ¬ M k) (hB : ∀ k, M k → w0.heap.size ≤ k) : Ow w0 w' e sz g v l :=
  ⟨own_chg h.own hc hM, h.below.trans (hc.below hB h.below.size)⟩
theorem eye_open (w : World) (A : Option Addr) (n c : Nat) : Calls Try.prog 35 #[.slice A n c] w fun e w' => e = .returned (.pointer (some ⟨w.heap.size, 0, none⟩)) ∧ w' = w.alloc (.cells (eyeO (.slice A n c) 0) 73) := by
  go_enter Try.func35, Try.ntmps35
  go_wp2
  go_ret
  exact ⟨rfl, rfl⟩
theorem bits_read (A : Option Addr) (n c : Nat) (l : List UInt8) (B : Option Addr) (m d : Nat) (ks : List Nat) (w : World) (hn : n ≤ 1000000000000000) (hm : m ≤ 400) (hk : ∀ k ∈ ks, k ≤ 60) (hs : ks.sum ≤ n * 8)
    (hA : Sl w 1 A n (byts l)) (hB : Sl w 1 B m (ints (ks.map (fun k : Nat => (k : Int))))) :
    Calls Try.prog 25 #[.slice A n c, .slice B m d] w fun e w' => ∃ v, e = .returned (.tuple #[v, .int .i64 (ks.sum : Int), .int .i64 0]) ∧ Ow w w' 3 1 gI v (readsAt l 0 ks) := by
  have HA := hid hA; have HB := hid hB; have HK := hid hk; clear hA hB hk
  have hkl : ks.length = m := by have := HB.out.leni; rw [List.length_map] at this; exact this
  go_enter Try.func25, Try.ntmps25
  go_wp2_with fail
  refine (eye_open w _ _ _).mono ?_
  rintro e w1 ⟨rfl, rfl⟩
  have hbA : 0 < n → ∀ ad, A = some ad → ad.block ≠ w.heap.size := by
    intro h ad e he
    obtain ⟨ad', x, e', _, hc⟩ := HA.out.at_ (k := 0) h
    rw [e] at e'; injection e' with e'; subst e'
    have := World.block_lt_of_cell? w _ hc
    have hb : (ad.add 0).block = ad.block := by unfold Addr.add; split <;> rfl
    omega
  have HBA := hid hbA; clear hbA
  have HW := hid (bnew (bnil w) (.cells (eyeO (.slice A n c) 0) 73))
  have HE := hid (Blk.new w 73 (eyeO (.slice A n c) 0))
  obtain ⟨g, hg⟩ : ∃ g, w.heap.size = g := ⟨_, rfl⟩
  generalize w.alloc (.cells (eyeO (.slice A n c) 0) 73) = w1 at *
  rw [hg] at HE HBA
  rw [hg]
  go_wp2
  go_loopw [8, 20] (fun o j wr => ∃ t : Nat, t ≤ m ∧ j = .int .i64 t ∧ Ow w wr 3 1 gI o (readsAt l 0 (ks.take t)) ∧ Blk wr g 73 (eyeO (.slice A n c) (ks.take t).sum)) (fun _ j _ => m - (intOf j).toNat)
  case atStart => exact ⟨0, Nat.zero_le _, rfl, Ow.nil' HW.out _ _ _, HE.out⟩
  case round =>
    obtain ⟨t, ht, rfl, ho, he⟩ := hrel
    have HO := hid ho; have HEr := hid he; clear ho he
    have hne := own_ne_blk HO.out.own HEr.out (by decide)
    have HNE := hid hne; clear hne
    by_cases hlt : t < m
    · obtain ⟨ad, x, rfl, hx, c0⟩ := (HB.out.below HO.out.below).ati hlt
      obtain ⟨k, hk, rfl⟩ : ∃ k : Nat, ks[t]? = some k ∧ x = (k : Int) := by
        rw [List.getElem?_map] at hx
        obtain ⟨k, h1, h2⟩ := Option.map_eq_some_iff.1 hx
        exact ⟨k, h1, h2.symm⟩
      clear hx
      have hk60 := HK.out k (List.mem_of_getElem? hk)
      have HT := hid (show ks.take (t + 1) = ks.take t ++ [k] from take_next hk)
      have hsum : (ks.take t).sum + k ≤ n * 8 := by
        have h1 : (ks.take (t + 1)).sum + (ks.drop (t + 1)).sum = ks.sum := by rw [← List.sum_append_nat, List.take_append_drop]
        rw [HT.out, List.sum_append_nat] at h1
        simp at h1; omega
      have HRL := hid (readsAt_len l 0 (ks.take t))
      have hrl : (readsAt l 0 (ks.take t)).length = t := by rw [HRL.out, List.length_take]; omega
      have HSN := hid (show readsAt l 0 (ks.take (t + 1)) = readsAt l 0 (ks.take t) ++ [(numOf (seen l (ks.take t).sum k) : Int)] by rw [HT.out, readsAt_snoc, Nat.zero_add])
      have HSM := hid (show (ks.take (t + 1)).sum = (ks.take t).sum + k by rw [HT.out, List.sum_append_nat]; simp)
      clear hk HRL
      generalize readsAt l 0 (ks.take t) = y at *
      generalize (ks.take t).sum = q at *
      have i1 : (t : Int) < (m : Int) := by omega
      go_wp2_with fail
      refine (wide_ok k _ hk60).mono ?_
      rintro e w2 ⟨rfl, rfl⟩
      go_wp2_with fail
      refine (eye_get wr g q n c k A l hn hk60 hsum HEr.out (HA.out.below HO.out.below) HBA.out).mono ?_
      rintro e w3 ⟨rfl, hbk, hch⟩
      have HO3 := hid (HO.out.chg hch (fun k hk hkg => HNE.out (by rw [hk, hkg])) (fun k hkg => by rw [hkg, ← hg]; exact Nat.le_refl _))
      have HE3 := hid hbk; clear hbk hch
      have HNE3 := hid (own_ne_blk HO3.out.own HE3.out (by decide))
      generalize numOf (seen l q k) = z at *
      obtain ⟨y1, hy1⟩ : ∃ y1, y ++ [(z : Int)] = y1 := ⟨_, rfl⟩
      have hy1l : y1.length = t + 1 := by rw [← hy1, List.length_append, hrl]; rfl
      have HY1 := hid hy1; clear hy1
      go_wp2_with (at_builtin; refine wpList_appY elmI gI_one rfl (.tmp 35) (.tmp 37) rfl u8 y rfl (HO3.out.alloc _) [(z : Int)] y1 HY1 rfl (Sl.fresh _ #[.int .i64 (z : Int)] 3 1 1 rfl) rfl (by simp only [maxLen]; omega) (by omega) ?_; intro A4 c4 w4 _ _ HN4 HG4 _)
      go_roundw
      case rel =>
        refine ⟨t + 1, by omega, by go_num, ?_, ?_⟩
        · rw [HSN.out, HY1.out]; have := HN4.out; rw [hy1l] at this; exact this
        · rw [HSM.out]; exact (Chg.of_grown HG4.out (fun k h => h) : Chg (fun k => u8.ownBlock = some k) _ _).blk (HE3.out.alloc _) HNE3.out
      case measure => simp [intOf] <;> omega
    · have htm : t = m := by omega
      have HTK := hid (show ks.take t = ks from List.take_of_length_le (by omega))
      rw [HTK.out] at HO HEr
      have c0 := HEr.out.cell 1
      simp only [eyeO, List.getElem?_toArray, List.getElem?_cons_zero, List.getElem?_cons_succ] at c0
      have i1 : ¬ (t : Int) < (m : Int) := by omega
      clear HTK
      go_wp2_with fail
      go_quiet (fail)
      go_wp2
      refine bodyPost_ret (v := .tuple #[u8, .int .i64 (ks.sum : Int), .int .i64 0]) (by simp [results, Try.results25, go_sem]) rfl ⟨_, rfl, HO.out.drewN _⟩
end Go.Proofs.Ytejpcibcllnheaa
