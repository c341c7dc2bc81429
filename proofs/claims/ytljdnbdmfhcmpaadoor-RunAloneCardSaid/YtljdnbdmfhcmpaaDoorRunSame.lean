/-
  sameEvent and Schedule: their walks.
-/
import Derived.Test.YtljdnbdmfhcmpaaDoorRunMem
namespace Go.Proofs.YtljdnbdmfhcmpaaDoor
open Go.RowKit
set_option linter.unusedVariables false

theorem same_event (e : Ev) (u v : SV) (x : Nat) (w : World) (hn : u.n ≤ 9223372036854775807) (hu : Sl w 1 u.A u.n (ints e.told)) (hv : Sl w 1 v.A v.n (ints e.told)) :
    Calls Tryd.prog 22 #[.agg #[.int .i64 (x : Int), .int .i64 (e.thread : Int), .int .i64 (e.call : Int), .bool e.fin, .int .i64 (e.err : Int), u.v], .agg #[.int .i64 (x : Int), .int .i64 (e.thread : Int), .int .i64 (e.call : Int), .bool e.fin, .int .i64 (e.err : Int), v.v]] w fun r w' => r = .returned (.bool true) ∧ Below w.heap.size w w' := by
  obtain ⟨A, n, c⟩ := u
  obtain ⟨B, m, d⟩ := v
  obtain rfl : n = m := hu.leni.symm.trans hv.leni
  obtain ⟨st, th, ca, fi, er, td⟩ := e
  simp only at hn hu hv ⊢
  have HU := hid hu; have HV := hid hv; clear hu hv
  obtain ⟨b, hb⟩ : ∃ b, w.heap.size = b := ⟨_, rfl⟩
  have e1 : ((x : Int) == (x : Int)) = true := by simp
  have e2 : ((th : Int) == (th : Int)) = true := by simp
  have e3 : ((ca : Int) == (ca : Int)) = true := by simp
  have e4 : (fi == fi) = true := by simp
  have e5 : ((er : Int) == (er : Int)) = true := by simp
  go_enter Tryd.func22, Tryd.ntmps22
  go_wp2_with fail
  refine (same_ints A B n c d td _ hn (HU.out.below (bnew (bnew (bnil w) _) _)) (HV.out.below (bnew (bnew (bnil w) _) _))).mono ?_
  rintro r w2 ⟨rfl, b2⟩
  go_wp2
  go_ret
  exact ⟨by simp, bgo (bnew (bnew (bnil w) _) _) b2⟩
/-- a schedule of three threads -/
def sched (l : List UInt8) (M : Nat) : List Nat := (l.take M).map fun x => x.toNat % 3
theorem sched_len (l : List UInt8) (M : Nat) : (sched l M).length = min M l.length := by unfold sched; simp
theorem sched_lt (l : List UInt8) (M : Nat) : ∀ x ∈ sched l M, x < 3 := by
  intro x hx
  unfold sched at hx
  obtain ⟨y, _, rfl⟩ := List.mem_map.1 hx
  exact Nat.mod_lt _ (by decide)
abbrev nats (l : List Nat) : List Int := l.map fun x : Nat => (x : Int)
theorem schedule (A : Option Addr) (n c M : Nat) (l : List UInt8) (w : World) (hn : n ≤ 9223372036854775807) (hM : M ≤ 4000) (h : Sl w 1 A n (byts l)) :
    Calls Tryd.prog 19 #[.slice A n c, .int .i64 3, .int .i64 (M : Int)] w fun e w' => ∃ v, e = .returned v ∧ Ow w w' 3 1 gI v (nats (sched l M)) := by
  have H := hid h; clear h
  have HL := hid H.out.lenb
  go_enter Tryd.func19, Tryd.ntmps19
  go_wp2
  go_loopw [7, 8] (fun v i wr => ∃ (k : Nat) (A1 : Option Addr) (c1 : Nat), k ≤ M ∧ k ≤ n ∧ i = .int .i64 k ∧ v = .slice A1 k c1 ∧ Hid (Ow w wr 3 1 gI (.slice A1 k c1) (nats (sched l k)))) (fun _ i _ => M - (intOf i).toNat)
  case atStart => exact ⟨0, none, 0, Nat.zero_le _, Nat.zero_le _, rfl, rfl, hid (Ow.nil _ _ _ _)⟩
  case round =>
    obtain ⟨k, A1, c1, hk, hkn, rfl, rfl, HO⟩ := hrel
    by_cases h1 : k < n
    · have i1 : (k : Int) < (n : Int) := by omega
      by_cases h2 : k < M
      · have i2 : (k : Int) < (M : Int) := by omega
        obtain ⟨ad, x, rfl, hx, cx⟩ := (H.out.below HO.out.below).at_ h1
        have x0 := byte_ge x
        have x1 := byte_lt x
        have HX := hid hx
        obtain ⟨X, hX⟩ : ∃ X, x.toNat = X := ⟨_, rfl⟩
        rw [hX] at cx x0 x1
        obtain ⟨y, hy⟩ : ∃ y, nats (sched l k) ++ [((X % 3 : Nat) : Int)] = y := ⟨_, rfl⟩
        have HYE := hid (show y = nats (sched l (k + 1)) by rw [← hy]; unfold nats sched; rw [take_next HX.out, List.map_append, List.map_append, ← hX]; rfl)
        have HY := hid hy
        have HYN := hid (show y.length = k + 1 by rw [HYE.out]; unfold nats; rw [List.length_map, sched_len, HL.out]; omega)
        clear hx hy hX
        go_wp2_with (at_builtin; refine wpList_appY elmI gI_one rfl (.tmp 20) (.tmp 28) rfl (.slice A1 k c1) _ rfl (HO.out.alloc _) [((X % 3 : Nat) : Int)] y HY rfl (Sl.fresh wr #[_] 3 1 1 rfl) (by go_num) (by rw [HYN.out]; simp only [maxLen]; omega) (by rw [HYN.out]; omega) ?_; intro A4 c4 w4 hc4 hc5 HN1 _ _)
        go_roundw
        case rel => exact ⟨k + 1, A4, c4, by omega, by omega, by go_num, by rw [HYN.out], hid (by have h1 := HN1.out; rw [HYN.out] at h1; rw [← HYE.out]; exact h1)⟩
        case measure => simp [intOf]; omega
      · obtain rfl : k = M := by omega
        have i2 : ¬ (k : Int) < (k : Int) := by omega
        go_wp2
        go_ret
        exact ⟨_, rfl, HO.out⟩
    · obtain rfl : k = n := by omega
      have i1 : ¬ (k : Int) < (k : Int) := by omega
      have E := hid (show sched l k = sched l M by unfold sched; rw [List.take_of_length_le (by rw [HL.out]; exact Nat.le_refl _), List.take_of_length_le (by rw [HL.out]; omega)])
      go_wp2
      go_ret
      exact ⟨_, rfl, by rw [← E.out]; exact HO.out⟩
end Go.Proofs.YtljdnbdmfhcmpaaDoor
