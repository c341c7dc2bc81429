/-
  runSure: its walk.
-/
import Derived.Test.YtabmkjokeeakdaaDoorRunPlay
import Derived.Test.YtabmkjokeeakdaaDoorMachMem
namespace Go.Proofs.YtabmkjokeeakdaaDoor
open Go.RowKit
set_option linter.unusedVariables false

def sureM : Mach := ⟨[4], [[⟨14, 0, 1, 0, 0⟩]], [[⟨0, [9]⟩]]⟩
theorem sure_play : (play sureM [0]).evs.map (·.fin) = [false, true] ∧ (play sureM [0]).words = [9] := ⟨by decide +kernel, by decide +kernel⟩
theorem own_at {w : World} {B e sz n : Nat} {v : Value} {xs : List Value} (h : w.ownsRow B e sz v n xs) (hn : 0 < n) : ∃ b c, v = .slice (some ⟨b, 0, none⟩) n c ∧ B ≤ b ∧ ∀ j u, xs[j]? = some u → w.cell? ⟨b, j, none⟩ = some u := by
  rcases h.2 with ⟨_, h0⟩ | ⟨g, cap, cur, rfl, hb, hh, h1, h2, h3, h4⟩
  · omega
  · refine ⟨g, cap, rfl, hb, fun j u hu => ?_⟩
    have := h.cells (g := g) rfl j u hu
    rw [ad_at] at this
    exact this
theorem blkN (w : World) (t : TypeId) (cs : Array Value) (g : Nat) (h : w.heap.size = g) : Blk (w.alloc (.cells cs t)) g t cs := by subst h; exact Blk.new w t cs
theorem Blk.sl {w : World} {g t : Nat} {cs : Array Value} (h : Blk w g t cs) (sz n : Nat) (hs : cs.size = n * sz) : Sl w sz (some ⟨g, 0, none⟩) n cs.toList :=
  ⟨by simpa using hs, fun _ => ⟨_, rfl, fun j u hu => by rw [ad_at, h.cell j]; simpa using hu⟩⟩
theorem sure_at (w : World) (a b c d e f g : Nat) (h0 : Blk w a 3 #[.int .i64 4]) (h1 : Blk w b 99 #[.int .i64 14, .int .i64 0, .int .i64 1, .int .i64 0, .int .i64 0]) (h2 : Blk w c 60 #[.slice (some ⟨b, 0, none⟩) 1 1])
    (h3 : Blk w d 3 #[.int .i64 9]) (h4 : Blk w e 35 #[.int .i64 0, .slice (some ⟨d, 0, none⟩) 1 1]) (h5 : Blk w f 33 #[.slice (some ⟨e, 0, none⟩) 1 1]) (h6 : Blk w g 3 #[.int .i64 0]) :
    MachAt w (some ⟨c, 0, none⟩) 1 (some ⟨f, 0, none⟩) 1 sureM ∧ Sl w 1 (some ⟨a, 0, none⟩) 1 (ints sureM.words) ∧ Sl w 1 (some ⟨g, 0, none⟩) 1 (ints ([0].map fun x : Nat => (x : Int))) := by
  refine ⟨⟨rfl, rfl, ⟨_, rfl, h2.sl 1 1 rfl, ?_⟩, ⟨_, rfl, h5.sl 1 1 rfl, ?_⟩⟩, h0.sl 1 1 rfl, h6.sl 1 1 rfl⟩
  · intro i code hi
    match i, hi with
    | 0, hi =>
      injection hi with hi; subst hi
      refine ⟨_, 1, 1, rfl, by decide, rfl, ?_, h1.sl 5 1 rfl⟩
      intro o ho
      rw [List.mem_singleton.1 ho]
      exact ⟨by decide, by decide, by decide, by decide, by decide⟩
    | i + 1, hi => simp [sureM] at hi
  · intro j calls hj
    match j, hj with
    | 0, hj =>
      injection hj with hj; subst hj
      refine ⟨_, 1, 1, rfl, rfl, by decide, [.slice (some ⟨d, 0, none⟩) 1 1], rfl, h4.sl 2 1 rfl, ?_⟩
      intro k x v hk hv
      match k, hk, hv with
      | 0, hk, hv =>
        injection hk with hk; subst hk
        injection hv with hv; subst hv
        exact ⟨by decide, _, 1, 1, rfl, by decide, h3.sl 1 1 rfl⟩
      | k + 1, hk, _ => simp at hk
    | j + 1, hj => simp [sureM] at hj
theorem sure_at' (w : World) : 
    MachAt (((((((w.alloc (.cells #[.int .i64 4] 3)).alloc (.cells #[.int .i64 14, .int .i64 0, .int .i64 1, .int .i64 0, .int .i64 0] 99)).alloc (.cells #[.slice (some ⟨w.heap.size + 1, 0, none⟩) 1 1] 60)).alloc (.cells #[.int .i64 9] 3)).alloc (.cells #[.int .i64 0, .slice (some ⟨w.heap.size + 1 + 1 + 1, 0, none⟩) 1 1] 35)).alloc (.cells #[.slice (some ⟨w.heap.size + 1 + 1 + 1 + 1, 0, none⟩) 1 1] 33)).alloc (.cells #[.int .i64 0] 3)) (some ⟨w.heap.size + 1 + 1, 0, none⟩) 1 (some ⟨w.heap.size + 1 + 1 + 1 + 1 + 1, 0, none⟩) 1 sureM ∧
    Sl (((((((w.alloc (.cells #[.int .i64 4] 3)).alloc (.cells #[.int .i64 14, .int .i64 0, .int .i64 1, .int .i64 0, .int .i64 0] 99)).alloc (.cells #[.slice (some ⟨w.heap.size + 1, 0, none⟩) 1 1] 60)).alloc (.cells #[.int .i64 9] 3)).alloc (.cells #[.int .i64 0, .slice (some ⟨w.heap.size + 1 + 1 + 1, 0, none⟩) 1 1] 35)).alloc (.cells #[.slice (some ⟨w.heap.size + 1 + 1 + 1 + 1, 0, none⟩) 1 1] 33)).alloc (.cells #[.int .i64 0] 3)) 1 (some ⟨w.heap.size, 0, none⟩) 1 (ints sureM.words) ∧
    Sl (((((((w.alloc (.cells #[.int .i64 4] 3)).alloc (.cells #[.int .i64 14, .int .i64 0, .int .i64 1, .int .i64 0, .int .i64 0] 99)).alloc (.cells #[.slice (some ⟨w.heap.size + 1, 0, none⟩) 1 1] 60)).alloc (.cells #[.int .i64 9] 3)).alloc (.cells #[.int .i64 0, .slice (some ⟨w.heap.size + 1 + 1 + 1, 0, none⟩) 1 1] 35)).alloc (.cells #[.slice (some ⟨w.heap.size + 1 + 1 + 1 + 1, 0, none⟩) 1 1] 33)).alloc (.cells #[.int .i64 0] 3)) 1 (some ⟨w.heap.size + 1 + 1 + 1 + 1 + 1 + 1, 0, none⟩) 1 (ints ([0].map fun x : Nat => (x : Int))) :=
  sure_at _ _ _ _ _ _ _ _
    ((((((((blkN _ _ _ _ rfl).alloc _).alloc _).alloc _).alloc _).alloc _).alloc _))
    (((((((blkN _ _ _ _ (by simp)).alloc _).alloc _).alloc _).alloc _).alloc _))
    ((((((blkN _ _ _ _ (by simp)).alloc _).alloc _).alloc _).alloc _))
    (((((blkN _ _ _ _ (by simp)).alloc _).alloc _).alloc _))
    ((((blkN _ _ _ _ (by simp)).alloc _).alloc _))
    (((blkN _ _ _ _ (by simp)).alloc _))
    ((blkN _ _ _ _ (by simp)))
set_option maxHeartbeats 1000000 in
theorem run_sure (w : World) (hT : STab w) : Calls Tryd.prog 31 #[] w fun e w' => e = .returned (.bool true) ∧ Below w.heap.size w w' := by
  have HT := hid hT; clear hT
  go_enter Tryd.func31, Tryd.ntmps31
  go_wp2_with fail
  obtain ⟨k1, k2, k3⟩ := sure_at' w
  have b7 := bnew (bnew (bnew (bnew (bnew (bnew (bnew (bnil w) (.cells #[.int .i64 4] 3)) (.cells #[.int .i64 14, .int .i64 0, .int .i64 1, .int .i64 0, .int .i64 0] 99)) (.cells #[.slice (some ⟨w.heap.size + 1, 0, none⟩) 1 1] 60)) (.cells #[.int .i64 9] 3)) (.cells #[.int .i64 0, .slice (some ⟨w.heap.size + 1 + 1 + 1, 0, none⟩) 1 1] 35)) (.cells #[.slice (some ⟨w.heap.size + 1 + 1 + 1 + 1, 0, none⟩) 1 1] 33)) (.cells #[.int .i64 0] 3)
  refine (run_play _ _ _ _ 1 1 1 1 1 1 1 1 sureM [0] _ (by decide) (by decide) (by decide) (by decide) (HT.out.below b7) k1 k2 k3 (by simp)).mono ?_
  have B7 := hid b7
  clear k1 k2 k3 b7
  generalize World.alloc (World.alloc (World.alloc (World.alloc (World.alloc (World.alloc (World.alloc w _) _) _) _) _) _) _ = w7 at *
  rintro e w8 hp
  have HP := hid hp; clear hp
  obtain ⟨ev, wv, es, rfl, h1, h2, _, h3, b8⟩ := HP.out
  obtain ⟨s1, s2⟩ := sure_play
  rw [s2] at h3
  rw [← h2, List.map_map] at s1
  clear h2 s2
  clear HP
  have hl : es.length = 2 := by have := congrArg List.length s1; simpa using this
  obtain ⟨x, y, rfl⟩ : ∃ x y, es = [x, y] := by
    clear h1 h3 s1 HT B7
    match es, hl with
    | [x, y], _ => exact ⟨x, y, rfl⟩
  have hy : y.1.fin = true := by simp at s1; exact s1.2
  clear s1 hl
  obtain ⟨b1, c1, rfl, _, hcell⟩ := own_at h1 (by simp)
  obtain ⟨A2, c2, rfl, _, _⟩ := own_form h3
  have cy := hcell 9 (.bool true) (by simp [hy])
  have O2 := hid (Sl.own h3); have B8 := hid (bgo B7.out b8)
  clear h1 h3 hcell hy b8
  go_wp2_with fail
  refine (same_ints A2 _ 1 c2 1 [9] _ (by decide) (O2.out.below (bnew (bnil _) _)) (Sl.fresh w8 #[.int .i64 9] 3 1 1 rfl)).mono ?_
  rintro e w5 ⟨rfl, hb5⟩
  go_wp2
  go_ret
  exact ⟨rfl, bgo B8.out (bgo (bnew (bnil w8) _) hb5)⟩
end Go.Proofs.YtabmkjokeeakdaaDoor
