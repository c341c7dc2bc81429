/-
  slices.Sorted(slices.Values(l)) at ints: its walk.
-/
import Derived.Test.YtifpnfhmemdljaaDoorVals
import Derived.Sort.OwnSortedInts
import Derived.Shelf.SortM.Plain
import Derived.Shelf.SortM.SortNone
import Derived.Ground.SlgmProg
namespace Go.Proofs.YtifpnfhmemdljaaDoor
open Go.RowKit Go.Sort Go.Shelf
set_option linter.unusedVariables false

attribute [local go_sem] Oper.semAt_some

shelf_lay_g SlLaysM.n5 Slgm 5 at Tryd 16 as Tryd.sortA

theorem sort_ints (blk off cap : Nat) (zs : List Int) (w : World) (hH : Holds (Value.int .i64) w blk off zs.toArray) (hblk : blk < w.heap.size) (hsz : zs.length < 4611686018427387904) :
    Calls Tryd.prog 16 #[.slice (some ⟨blk, off, none⟩) zs.length cap] w fun e w' =>
      e = .returned (.tuple #[]) ∧ ∃ n os, w' = grow (putRow (Value.int .i64) (Sort.ahead w n) blk off (zs.mergeSort fun x y => decide (x ≤ y)).toArray) os :=
  AnyM.slices_Sort_int Tryd.sortA blk off cap zs w hH hblk hsz
set_option maxHeartbeats 1000000 in
theorem collect_in (F : Fence) (n : Nat) (h2 : F.fn 15) (h3 : F.fn 25) (h5 : F.fn 17) (hro : F.round = none) (hn : 4 ≤ n) (Bs b off cap : Nat) (zs : List Int) (hlen : zs.length ≤ 1000000) (w : World) (hBs : Bs < w.heap.size)
    (hcB : w.cell? ⟨Bs, 0, none⟩ = some (.slice (some ⟨b, off, none⟩) zs.length cap)) (hb : b < w.heap.size) (hI : ∀ j, j < zs.length → w.cell? ⟨b, off + j, none⟩ = some (.int .i64 (zs[j]?.getD 0))) :
    CallsIn F n Tryd.prog 15 #[.func (.func 17) #[] #[.pointer (some ⟨Bs, 0, none⟩)]] w fun e W' => ∃ v, e = .returned v ∧ W'.ownsRow w.heap.size 3 1 v zs.length (zs.map (Value.int .i64)) ∧ Below w.heap.size w W' := by
  have h1 : 1 ≤ n := by omega
  refine callsIn_of_wp Tryd.func15 rfl h2 ?_ hro
  simp only [Tryd.ntmps15, List.size_toArray, List.length_cons, List.length_nil, Nat.reduceAdd, Nat.reduceSub, Array.replicate_succ, Array.replicate_zero, List.push_toArray, List.append_toArray, List.nil_append, List.cons_append]
  gi_wp2_with (gi_at_call 25; refine (appendSeq_in F (n - 1) h3 h5 hro (by omega) Bs b off cap zs hlen w hBs hcB hb hI).mono ?_; rintro e w' ⟨v, rfl, hrow, hb2⟩)
  go_ret
  exact ⟨v, rfl, hrow, hb2⟩
set_option maxHeartbeats 1000000 in
theorem sorted_in (F : Fence) (n : Nat) (h0 : F.fn 9) (h2 : F.fn 15) (h3 : F.fn 25) (h4 : F.fn 16) (h5 : F.fn 17) (hw : F = Fence.wide) (hro : F.round = none) (hn : 5 ≤ n) (Bs b off cap : Nat) (zs : List Int) (hlen : zs.length ≤ 1000000) (h1z : 1 ≤ zs.length) (w : World) (hBs : Bs < w.heap.size)
    (hcB : w.cell? ⟨Bs, 0, none⟩ = some (.slice (some ⟨b, off, none⟩) zs.length cap)) (hb : b < w.heap.size) (hI : ∀ j, j < zs.length → w.cell? ⟨b, off + j, none⟩ = some (.int .i64 (zs[j]?.getD 0))) :
    CallsIn F n Tryd.prog 9 #[.func (.func 17) #[] #[.pointer (some ⟨Bs, 0, none⟩)]] w fun e W' => ∃ v, e = .returned v ∧ W'.ownsRow w.heap.size 3 1 v zs.length ((zs.mergeSort fun x y => decide (x ≤ y)).map (Value.int .i64)) ∧ Below w.heap.size w W' := by
  subst hw
  have h1 : 1 ≤ n := by omega
  refine callsIn_of_wp Tryd.func9 rfl h0 ?_ hro
  simp only [Tryd.ntmps9, List.size_toArray, List.length_cons, List.length_nil, Nat.reduceAdd, Nat.reduceSub, Array.replicate_succ, Array.replicate_zero, List.push_toArray, List.append_toArray, List.nil_append, List.cons_append]
  gi_wp2_with (gi_at_call 15; refine (collect_in Fence.wide (n - 1) h2 h3 h5 hro (by omega) Bs b off cap zs hlen w hBs hcB hb hI).mono ?_; rintro e W ⟨v, rfl, hrow, hb2⟩)
  rcases hrow.2 with ⟨rfl, hz⟩ | ⟨gb, cap2, cur, rfl, hbase, hgb, r1, r2, r3, r4⟩
  · omega
  · have hH : Holds (Value.int .i64) W gb 0 zs.toArray := holds_of_blockI hgb (by simpa using r4)
    have hgl : gb < W.heap.size := (Array.getElem?_eq_some_iff.1 hgb).1
    have cS := (callsIn_wide (n := n - 1)).2 (sort_ints gb 0 cap2 zs W hH hgl (by omega))
    gi_wp2_with (gi_at_call 16; refine cS.mono ?_; rintro e w' ⟨rfl, nn, os, rfl⟩)
    go_ret
    exact ⟨_, rfl, by have := ownsRow_sortedI (n := nn) (os := os) (ss := zs) (ts := zs.mergeSort fun x y => decide (x ≤ y)) (by simp) hbase hgb r1 r2 r3; exact this, hb2.grown (grownBy_sortedI _) hb2.size (fun j hj => by cases hj; exact hbase)⟩
end Go.Proofs.YtifpnfhmemdljaaDoor
