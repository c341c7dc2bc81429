/-
  FileOf: its walk.
-/
import Derived.Test.YtpoaomjpbjcmbaaFOpen
namespace Go.Proofs.Ytpoaomjpbjcmbaa
open Go.RowKit
set_option linter.unusedVariables false

def fRecs (ls : List (List UInt8)) (m : Nat) : List (List UInt8) := (ls.take m).map (·.take 100)
def fFile (rs : List (List UInt8)) : List UInt8 := rs.flatMap recOf
theorem fFile_snoc (rs : List (List UInt8)) (b : List UInt8) : fFile (rs ++ [b]) = fFile rs ++ recOf b := by unfold fFile; rw [List.flatMap_append]; simp
theorem fRecs_snoc {ls : List (List UInt8)} {k : Nat} {l : List UInt8} (h : ls[k]? = some l) : fRecs ls (k + 1) = fRecs ls k ++ [l.take 100] := by
  unfold fRecs; rw [take_next h, List.map_append]; rfl
theorem fRecs_len (ls : List (List UInt8)) (m : Nat) : (fRecs ls m).length = min m ls.length := by unfold fRecs; simp
theorem fRecs_mem (ls : List (List UInt8)) (m : Nat) : ∀ b ∈ fRecs ls m, b.length ≤ 100 := by
  intro b hb
  unfold fRecs at hb
  obtain ⟨a, _, rfl⟩ := List.mem_map.1 hb
  simp; omega
theorem fFile_len (rs : List (List UInt8)) (h : ∀ b ∈ rs, b.length ≤ 100) : (fFile rs).length ≤ rs.length * 106 := by
  induction rs with
  | nil => simp [fFile]
  | cons b rs ih =>
    have := ih fun c hc => h c (by simp [hc])
    have hb := h b (by simp)
    unfold fFile at *
    rw [List.flatMap_cons, List.length_append, recOf_len, List.length_cons, Nat.add_mul]; omega
theorem slice_inj {A A' : Option Addr} {n n' c c' : Nat} (h : Value.slice A n c = .slice A' n' c') : A = A' ∧ n = n' ∧ c = c' := by injection h with h1 h2 h3; exact ⟨h1, h2, h3⟩

set_option maxHeartbeats 1000000 in
theorem file_of (A : Option Addr) (n c m : Nat) (ls : List (List UInt8)) (w : World) (hn : n ≤ c) (hc : c ≤ maxLen) (hm : m ≤ 1000) (h : Rin w A n ls) :
    Calls Try.prog 5 #[.slice A n c, .int .i64 (m : Int)] w fun e w' => ∃ v1 v2, e = .returned (.tuple #[v1, v2, .bool true]) ∧ Ow w w' 5 1 gB v1 (fFile (fRecs ls m)) ∧ Rows w w' v1.ownBlock v2 (fRecs ls m) := by
  have H := hid h
  have HL := hid h.1
  clear h
  unfold maxLen at hc
  go_enter Try.func5, Try.ntmps5
  go_wp2
  go_loopw [7, 8, 9] (fun u v i wr => ∃ (k : Nat) (A1 : Option Addr) (n1 c1 : Nat) (A2 : Option Addr) (n2 c2 : Nat), k ≤ n ∧ k ≤ m ∧ n1 ≤ c1 ∧ c1 ≤ 9223372036854775807 ∧ n2 ≤ c2 ∧ c2 ≤ 9223372036854775807 ∧ i = .int .i64 k ∧ u = .slice A1 n1 c1 ∧ v = .slice A2 n2 c2 ∧ Ow w wr 5 1 gB u (fFile (fRecs ls k)) ∧ Rows w wr u.ownBlock v (fRecs ls k)) (fun _ _ i _ => n - (intOf i).toNat)
  case atStart => exact ⟨0, none, 0, 0, none, 0, 0, Nat.zero_le _, Nat.zero_le _, by simp, by simp, by simp, by simp, rfl, rfl, rfl, Ow.nil _ _ _ _, Rows.nil_ (bnil w)⟩
  case round =>
    obtain ⟨k, A1, n1, c1, A2, n2, c2, hk, hkm, g1, g2, g3, g4, rfl, rfl, rfl, ho, hr⟩ := hrel
    have HO := hid ho; have HR := hid hr; clear ho hr
    by_cases hlt : k < n
    · by_cases hlm : k < m
      · obtain ⟨ad, l, B, cb, rfl, hl, c0, hb1, hb2, hsl⟩ := (H.out.below HO.out.below).at_ hlt
        have HLK := hid hl
        have HS := hid hsl
        clear hl hsl
        have i1 : (k : Int) < (n : Int) := by omega
        have i2 : (k : Int) < (m : Int) := by omega
        go_wp2_with fail
        refine (octets B l.length cb 100 l wr (by omega) hb2 (by omega) HS.out).mono ?_
        rintro e w1 ⟨v1, rfl, ho1⟩
        have HO1 := hid ho1; clear ho1
        obtain ⟨Bx, cq, rfl, hq1, hq2⟩ := HO1.out.form
        obtain ⟨b, hb⟩ : ∃ b, l.take 100 = b := ⟨_, rfl⟩
        have hb100 : b.length ≤ 100 := by rw [← hb, List.length_take]; omega
        have HBX := hid hb
        rw [hb] at HO1 hq1 ⊢
        clear hb
        obtain ⟨q, hq⟩ : ∃ q, b.length = q := ⟨_, rfl⟩
        have HQ := hid hq
        rw [hq] at HO1 hq1 hb100 ⊢
        clear hq
        go_wp2_with fail
        refine (file_record Bx q cq b w1 (by omega) HO1.out.sl).mono ?_
        rintro e w2 ⟨v2, rfl, ho2⟩
        obtain ⟨Br, cr, rfl, hr1, hr2⟩ := ho2.form
        rw [recOf_len, HQ.out] at hr1
        have HO2 := hid ho2; clear ho2
        rw [recOf_len, HQ.out] at HO2
        rw [recOf_len, HQ.out]
        have e6 : (((6 + q : Nat) : Int) != (6 : Int) + (q : Int)) = false := by simp <;> omega
        have e7 : (6 : Int) + (q : Int) = ((6 + q : Nat) : Int) := by omega
        obtain ⟨r, hr⟩ : ∃ r, 6 + q = r := ⟨_, rfl⟩
        rw [hr] at HO2 hr1 e6 e7
        rw [hr]
        have hrl : r ≤ 106 := by omega
        have HRQ := hid hr
        clear hr
        have e8 : (6 : Int) + (q : Int) ≤ 9223372036854775807 := by omega
        have e9 : ((r : Int) != (r : Int)) = false := by simp
        have HE7 := hid e7
        clear e6
        obtain ⟨y, hy⟩ : ∃ y, fFile (fRecs ls k) ++ recOf b = y := ⟨_, rfl⟩
        have hyl : y.length ≤ 1000000 := by
          rw [← hy, List.length_append, recOf_len, HQ.out]
          have := fFile_len (fRecs ls k) (fRecs_mem ls k)
          rw [fRecs_len] at this; omega
        have HY := hid hy
        obtain ⟨y2, hy2⟩ : ∃ y2, fRecs ls k ++ [b] = y2 := ⟨_, rfl⟩
        have hyl2 : y2.length ≤ 1000000 := by rw [← hy2]; simp [fRecs_len]; omega
        have HY2 := hid hy2
        have HS1 := hid (show fFile (fRecs ls (k + 1)) = y by rw [fRecs_snoc HLK.out, fFile_snoc, HBX.out, hy])
        have HS2 := hid (show fRecs ls (k + 1) = y2 by rw [fRecs_snoc HLK.out, HBX.out, hy2])
        clear hy hy2
        have HOa := hid ((HO.out.step HO1.out.below).step HO2.out.below)
        have HRa := hid ((HR.out.step HO1.out.below).step HO2.out.below)
        have HBa := hid (HO1.out.step HO2.out.below)
        have hap := fun (u' : Value) (h : u'.ownBlock = (Value.slice A1 n1 c1).ownBlock ∨ u'.ownBlock = some w2.heap.size) => own_apart (u' := u') (w1 := w2) HO.out.own HBa.out.own (Nat.le_refl _) (Nat.le_refl _) h
        have HAP := hid hap; clear hap
        go_wp2_with (first
          | (at_builtin; refine wpList_appY elmB gB_one rfl (.tmp 44) (.tmp 45) rfl (.slice A1 n1 c1) _ rfl HOa.out (recOf b) y HY rfl HO2.out.sl (by rw [recOf_len, HQ.out, HRQ.out]) (by simp only [maxLen]; omega) (by omega) ?_; intro A4 c4 w4 hc1 hc2 HN1 HG1 HG2; have HR4 := hid (HRa.out.outgrow HOa.out.own HG1.out HG2.out HN1.out.below); have HB4 := hid (own_grown (own_lower HBa.out.own HO.out.below.size) HG1.out (HAP.out _ (Or.inl rfl))))
          | (at_builtin; refine wpList_appRow rfl (.tmp 47) (.tmp 49) rfl (.slice A2 n2 c2) (fRecs ls k) rfl (HR4.out.step (bnew (bnil _) _)) (.slice Bx q cq) b y2 HY2 rfl (Sl.fresh w4 #[.slice Bx q cq] 23 1 1 rfl) (own_below HB4.out (bnew (bnil _) _)) (HAP.out _ HG2.out) (by omega) ?_; intro A5 c5 w5 hc3 hc4 HN2 HG3 HG4; have HO5 := hid (Ow.mk (HG4.out _ _ _ _ _ _ (by decide) (own_below HN1.out.own (bnew (bnil _) _))) HN2.out.below)))
        go_roundw
        case rel => exact ⟨k + 1, A4, y.length, c4, A5, y2.length, c5, by omega, by omega, hc1, by unfold maxLen at hc2; omega, hc3, by unfold maxLen at hc4; omega, by go_num, rfl, rfl, by rw [HS1.out]; exact HO5.out, by rw [HS2.out]; exact HN2.out⟩
        case measure => simp [intOf]; omega
      · have hkm' : k = m := by omega
        have i1 : (k : Int) < (n : Int) := by omega
        have i2 : ¬ (k : Int) < (m : Int) := by omega
        have E := hid (show fRecs ls k = fRecs ls m by rw [hkm'])
        clear hkm'
        rw [E.out] at HO HR
        go_wp2
        go_ret3
        exact ⟨_, _, rfl, HO.out, HR.out⟩
    · have hkn : k = n := by omega
      have i1 : ¬ (k : Int) < (n : Int) := by omega
      have E := hid (show fRecs ls k = fRecs ls m by unfold fRecs; rw [List.take_of_length_le (by have := HL.out; omega), List.take_of_length_le (by have := HL.out; omega)])
      clear hkn
      rw [E.out] at HO HR
      go_wp2
      go_ret3
      exact ⟨_, _, rfl, HO.out, HR.out⟩
end Go.Proofs.Ytpoaomjpbjcmbaa
