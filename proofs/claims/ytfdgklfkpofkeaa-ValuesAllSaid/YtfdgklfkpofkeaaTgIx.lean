/-
  barographkeep.IndexOf: its walk. What it hands back is an index of series in memory.
-/
import Derived.Test.YtfdgklfkpofkeaaTgKeep
namespace Go.Proofs.Ytfdgklfkpofkeaa
open Go.RowKit Go.Maps
set_option linter.unusedVariables false

theorem elmT : Elm Try.prog 61 43 2 32 := elm_of (z := .agg #[.string ⟨#[]⟩, .string ⟨#[]⟩]) Try.underlying61 (by kernel_rfl) rfl (by decide)
theorem elmTT : Elm Try.prog 39 61 1 24 := elm_of (z := .slice none 0 0) Try.underlying39 (by kernel_rfl) rfl (by decide)
/-- a slice's parts -/
abbrev SS := Option Addr × Nat × Nat
abbrev gSS : SS → List Value := fun s => [.slice s.1 s.2.1 s.2.2]
theorem gSS_one (s : SS) : ∀ u ∈ gSS s, u.oneCell' = true := by intro u hu; simp at hu; subst hu; rfl
/-- the tags of a number, of the first k keys -/
def tgk (n : Nat) : Nat → List (Nat × Nat)
  | 0 => []
  | k + 1 => if digT n k = 0 then tgk n k else tgk n k ++ [(k, digT n k)]
theorem tgk_all : ∀ n < 64, tgk n 3 = tagsOf n := by decide +kernel
theorem tgk_len (n : Nat) : ∀ k, (tgk n k).length ≤ k
  | 0 => Nat.le_refl _
  | k + 1 => by have := tgk_len n k; unfold tgk; split <;> simp <;> omega
/-- a slice of tags that lies in a row of tags -/
def TSl (w : World) (A : Option Addr) (n : Nat) (ts : List (Nat × Nat)) : Prop :=
  ts.length = n ∧ (0 < n → ∃ g cs, A = some ⟨g, 0, none⟩ ∧ Blk w g 43 cs ∧ ∀ (j : Nat) (u : Value), (ts.flatMap gT)[j]? = some u → cs[j]? = some u)
theorem TSl.sl {w : World} {A : Option Addr} {n : Nat} {ts : List (Nat × Nat)} (h : TSl w A n ts) : Sl w 2 A n (ts.flatMap gT) := by
  refine ⟨by rw [flatMap_len gT 2 (fun _ => rfl), h.1], fun hn => ?_⟩
  obtain ⟨g, cs, rfl, hb, hc⟩ := h.2 hn
  refine ⟨_, rfl, fun j u hu => ?_⟩
  have := hc j u hu
  unfold Addr.add
  simp only [Nat.zero_add]
  split <;> simp_all [hb.cell]
theorem TSl.keep {w w' : World} {A : Option Addr} {n : Nat} {ts : List (Nat × Nat)} (h : TSl w A n ts) (hk : ∀ g cs, Blk w g 43 cs → Blk w' g 43 cs) : TSl w' A n ts := by
  refine ⟨h.1, fun hn => ?_⟩
  obtain ⟨g, cs, e, hb, hc⟩ := h.2 hn
  exact ⟨g, cs, e, hk g cs hb, hc⟩
theorem TSl.own {w0 w : World} {A : Option Addr} {n c : Nat} {l : List (Nat × Nat)} (h : Ow w0 w 43 2 gT (.slice A n c) l) (hn : l.length = n) : TSl w A n l := by
  refine ⟨hn, fun h0 => ?_⟩
  obtain ⟨b, cur, rfl, _, _, hb, _, _, _, ht⟩ := h.rowG (by omega)
  refine ⟨b, cur, rfl, hb, fun j x hj => ?_⟩
  rw [← ht, List.getElem?_take] at hj
  split at hj
  · rwa [← Array.getElem?_toList]
  · simp at hj
/-- what the rounds keep: the series so far, the numbers that were had, and what of the memory stays -/
structure IxI (w wr : World) (H : Nat) (ns : List Nat) (A : Option Addr) (n c : Nat) : Prop where
  len : ns.length = n
  lt : ∀ x ∈ ns, x < 64
  nd : ns.Nodup
  row : ∃ svs : List SS, svs.length = n ∧ Ow w wr 61 1 gSS (.slice A n c) svs ∧ ∀ (i x : Nat), ns[i]? = some x → ∃ s : SS, svs[i]? = some s ∧ TSl wr s.1 s.2.1 (tagsOf x)
  had : ∃ hb : Array Value, Blk wr H 80 hb ∧ ∀ x, x < 64 → hb[x]? = some (.bool (decide (x ∈ ns)))
  own : w.heap.size ≤ H
theorem Ow.setFar {α : Type} {w0 w : World} {e : TypeId} {sz : Nat} {g : α → List Value} {v : Value} {l : List α} (h : Ow w0 w e sz g v l) {H i : Nat} {t : TypeId} {cs : Array Value} (hb : Blk w H t cs) (hne : t ≠ e) (hH : w0.heap.size ≤ H) (u : Value) : Ow w0 (w.setCell ⟨H, i, none⟩ u) e sz g v l := by
  refine ⟨⟨h.own.1, ?_⟩, h.below.setCell (p := ⟨H, i, none⟩) hH u⟩
  rcases h.own.2 with h0 | ⟨k, cap, cur, hv, hg, hh, r⟩
  · exact .inl h0
  · refine .inr ⟨k, cap, cur, hv, hg, (Below.heap_setCell w _ u k ?_).trans hh, r⟩
    intro e1
    have e1 : k = H := e1
    subst e1
    have h2 : w.heap[k]? = some (.cells cs t (0, 0)) := hb
    rw [hh] at h2
    injection h2 with h2; injection h2 with _ h2
    exact hne h2.symm
theorem Ow.rowType {α : Type} {w0 w : World} {e : TypeId} {sz : Nat} {g : α → List Value} {v : Value} {l : List α} (h : Ow w0 w e sz g v l) {k : Nat} (hk : v.ownBlock = some k) {t : TypeId} {cs : Array Value} (hb : Blk w k t cs) : t = e := by
  rcases h.own.2 with ⟨rfl, _⟩ | ⟨k', cap, cur, rfl, hg, hh, r⟩
  · simp [Value.ownBlock] at hk
  · have e1 : k' = k := by simpa [Value.ownBlock] using hk
    subst e1
    have h2 : w.heap[k']? = some (.cells cs t (0, 0)) := hb
    rw [hh] at h2
    injection h2 with h2; injection h2 with _ h2
    exact h2.symm
theorem IxI.below {w wr wr' : World} {H : Nat} {ns : List Nat} {A : Option Addr} {n c : Nat} (h : IxI w wr H ns A n c) (hb : Below wr.heap.size wr wr') : IxI w wr' H ns A n c := by
  obtain ⟨svs, s1, s2, s3⟩ := h.row
  obtain ⟨hd, d1, d2⟩ := h.had
  exact ⟨h.len, h.lt, h.nd, ⟨svs, s1, s2.step hb, fun i x hx => by obtain ⟨s, e, t⟩ := s3 i x hx; exact ⟨s, e, t.keep fun g cs hg => hg.below' hb⟩⟩, ⟨hd, d1.below' hb, d2⟩, h.own⟩
theorem IxI.ser {w wr : World} {H : Nat} {ns : List Nat} {A : Option Addr} {n c : Nat} (h : IxI w wr H ns A n c) (h30 : n ≤ 30) : SerAt wr A n ns := by
  obtain ⟨svs, s1, s2, s3⟩ := h.row
  refine ⟨h.len, h30, h.lt, h.nd, svs.flatMap gSS, by rw [flatMap_len gSS 1 (fun _ => rfl), s1, Nat.mul_one], s2.sl, fun i x hx => ?_⟩
  obtain ⟨s, e, t⟩ := s3 i x hx
  refine ⟨s.1, s.2.1, s.2.2, ?_, t.1, t.sl⟩
  have : ∀ l : List SS, l.flatMap gSS = l.map fun s => Value.slice s.1 s.2.1 s.2.2 := fun l => by
    induction l with
    | nil => rfl
    | cons a l ih => simp [ih]
  rw [this, List.getElem?_map, e]; rfl
/-- a number is had: its place in the array is set, its series appended -/
theorem IxI.add {w wr wi wa wo : World} {H x : Nat} {ns : List Nat} {A A' A2 : Option Addr} {n c c' c2 m : Nat} (h : IxI w wr H ns A n c) (hx : x < 64) (hn : x ∉ ns)
    (hi : Below (wr.setCell ⟨H, x, none⟩ (.bool true)).heap.size (wr.setCell ⟨H, x, none⟩ (.bool true)) wi) (ht : TSl wi A2 m (tagsOf x)) (ha : Below wi.heap.size wi wa) (svs : List SS) (hs : svs.length = n) (hO : Ow w wo 61 1 gSS (.slice A' (n + 1) c') (svs ++ [(A2, m, c2)])) (hG : wa.grownBy wo (Value.slice A n c).ownBlock) 
    (hS : ∀ (i x : Nat), ns[i]? = some x → ∃ s : SS, svs[i]? = some s ∧ TSl wr s.1 s.2.1 (tagsOf x)) (hOw : Ow w wr 61 1 gSS (.slice A n c) svs) : IxI w wo H (ns ++ [x]) A' (n + 1) c' := by
  obtain ⟨hd, d1, d2⟩ := h.had
  have hSet := hOw.setFar (i := x) d1 (by decide) h.own (.bool true)
  have hOa := (hSet.step hi).step ha
  have kp : ∀ t g cs, t ≠ 61 → Blk wa g t cs → Blk wo g t cs := fun t g cs hne hg => (hG.block g hg.lt fun e => hne (hOa.rowType e.symm hg)).trans hg
  have kt : ∀ g cs, Blk wr g 43 cs → Blk wo g 43 cs := fun g cs hg => kp _ g cs (by decide) (((hg.far (hg.ne_ d1 (by decide)) _).below' hi).below' ha)
  refine ⟨by rw [List.length_append, h.len]; rfl, ?_, ?_, ⟨svs ++ [(A2, m, c2)], by rw [List.length_append, hs]; rfl, hO, ?_⟩, ⟨_, kp _ H _ (by decide) (((d1.set_ x (.bool true)).below' hi).below' ha), ?_⟩, h.own⟩
  · intro z hz
    rcases List.mem_append.1 hz with h1 | h1
    · exact h.lt z h1
    · rw [List.mem_singleton.1 h1]; exact hx
  · rw [List.nodup_append]
    refine ⟨h.nd, by simp, ?_⟩
    intro a ha b hb
    rw [List.mem_singleton.1 hb]
    rintro rfl; exact hn ha
  · intro i z hz
    by_cases hi' : i < ns.length
    · rw [List.getElem?_append_left hi'] at hz
      obtain ⟨s, e, t⟩ := hS i z hz
      refine ⟨s, ?_, t.keep kt⟩
      rw [List.getElem?_append_left (by rw [hs, ← h.len]; exact hi')]; exact e
    · rw [List.getElem?_append_right (by omega)] at hz
      have h0 : i - ns.length = 0 := by
        have := (List.getElem?_eq_some_iff.1 hz).1
        simp at this; omega
      have h1 : i = ns.length := by omega
      rw [h0] at hz
      have h2 : x = z := by simpa using hz
      subst h2
      refine ⟨(A2, m, c2), ?_, ht.keep fun g cs hg => kp _ g cs (by decide) (hg.below' ha)⟩
      rw [List.getElem?_append_right (by rw [hs, ← h.len]; omega), hs, ← h.len, h0]; rfl
  · intro z hz
    rw [Array.getElem?_setIfInBounds]
    by_cases e : x = z
    · subst e
      have h3 := (Array.getElem?_eq_some_iff.1 (d2 x hx)).1
      rw [if_pos rfl, if_pos h3]; simp
    · rw [if_neg e, d2 z hz]
      have : (z ∈ ns ++ [x]) = (z ∈ ns) := by
        apply propext; simp; intro h; exact absurd h.symm e
      simp only [this]
theorem bits_dig : ∀ x : Nat, x < 64 → ∀ k : Nat, k < 3 → bits .and .i64 ((x : Int) / 2 ^ (2 * k)) 3 = (digT x k : Int) := by decide +kernel
theorem dig_lt (x k : Nat) : digT x k < 4 := by unfold digT; omega
set_option maxRecDepth 100000 in
set_option maxHeartbeats 8000000 in
theorem index_of (A : Option Addr) (L c : Nat) (l : List Int) (w : World) (hS : Sl w 1 A L (ints l)) (hr : ∀ x ∈ l, -9223372036854775808 ≤ x ∧ x ≤ 9223372036854775807) (hL : L ≤ 4611686018427387904) :
    Calls Try.prog 15 #[.slice A L c] w fun e w' => ∃ (ns : List Nat) (A' : Option Addr) (n' c' : Nat), e = .returned (.slice A' n' c') ∧ n' ≤ c' ∧ SerAt w' A' n' ns ∧ Below w.heap.size w w' := by
  have HS := hid hS
  have HR := hid hr
  have hlen := hS.leni
  obtain ⟨W0, hW0⟩ : ∃ W0, w.alloc (.cells (Array.replicate 64 (.bool false)) 80) = W0 := ⟨_, rfl⟩
  obtain ⟨H, hH⟩ : ∃ H, w.heap.size = H := ⟨_, rfl⟩
  have B0 := hid (show Blk W0 H 80 (Array.replicate 64 (.bool false)) by rw [← hW0, ← hH]; exact Blk.new w _ _)
  have Z0 := hid (show Below w.heap.size w W0 by rw [← hW0]; exact bnew (bnil w) _)
  have HW0 := hid hW0
  have HH := hid hH
  clear hW0 hH hS hr
  go_enter Try.func15, Try.ntmps15
  go_upto_region 3 with fail
  rw [show w.alloc (.cells #[.bool false, .bool false, .bool false, .bool false, .bool false, .bool false, .bool false, .bool false, .bool false, .bool false, .bool false, .bool false, .bool false, .bool false, .bool false, .bool false, .bool false, .bool false, .bool false, .bool false, .bool false, .bool false, .bool false, .bool false, .bool false, .bool false, .bool false, .bool false, .bool false, .bool false, .bool false, .bool false, .bool false, .bool false, .bool false, .bool false, .bool false, .bool false, .bool false, .bool false, .bool false, .bool false, .bool false, .bool false, .bool false, .bool false, .bool false, .bool false, .bool false, .bool false, .bool false, .bool false, .bool false, .bool false, .bool false, .bool false, .bool false, .bool false, .bool false, .bool false, .bool false, .bool false, .bool false, .bool false] 80) = W0 from HW0.out]
  simp only [HH.out]
  go_wp2_with fail
  go_loopw [3, 5] (fun v q wr => ∃ (i n1 c1 : Nat) (A1 : Option Addr) (ns : List Nat), i ≤ L ∧ i ≤ 30 ∧ n1 ≤ i ∧ v = .slice A1 n1 c1 ∧ q = .int .i64 i ∧ Hid (IxI w wr H ns A1 n1 c1)) (fun _ q _ => L - (intOf q).toNat)
  case atStart =>
    refine ⟨0, 0, 0, none, [], Nat.zero_le _, by omega, Nat.le_refl _, rfl, rfl, hid ⟨rfl, by simp, List.nodup_nil, ⟨[], rfl, Ow.nil' Z0.out _ 1 gSS, by simp⟩, ⟨_, B0.out, fun x hx => ?_⟩, by have := HH.out; omega⟩⟩
    rw [Array.getElem?_replicate, if_pos hx]; simp
  case round =>
    obtain ⟨i, n1, c1, A1, ns, hi, hi30, hn1, rfl, rfl, HI⟩ := hrel
    by_cases hlt : i < L
    · by_cases h30 : i < 30
      · have i1 : (i : Int) < (L : Int) := by omega
        have i2 : (i : Int) < 30 := by omega
        obtain ⟨wo, hwo⟩ : ∃ wo, wo = wr := ⟨_, rfl⟩
        subst hwo
        obtain ⟨svs0, hsl0, hO0, hS0⟩ := HI.out.row
        obtain ⟨hd, d1, d2⟩ := HI.out.had
        have ZR := hid (show Below w.heap.size w wo from hO0.below)
        obtain ⟨ad, a, rfl, ha, ca⟩ := (HS.out.below ZR.out).ati hlt
        have hra := HR.out a (List.mem_of_getElem? ha)
        obtain ⟨x, hx⟩ : ∃ x, pk a 64 = x := ⟨_, rfl⟩
        have hx64 : x < 64 := by have := pk_lt a 64 (by decide); omega
        have HXX := hid (show (pk a 64 : Int) = (x : Int) by rw [hx])
        have BH := hid d1
        have D2 := hid d2
        have O0 := hid hO0
        have S0 := hid hS0
        have xc := (d1.cell x).trans (d2 x hx64)
        have xf := d1.frozen x
        have x64 : (x : Int) < 64 := by omega
        clear d1 d2 hO0 hS0 hx
        go_wp2_with fail
        refine (picked a 64 _ (by omega) hra.1 hra.2 (by omega)).mono ?_
        rintro e w1 ⟨rfl, rfl⟩
        rw [HXX.out]
        by_cases hm : x ∈ ns
        · have hd1 : decide (x ∈ ns) = true := decide_eq_true hm
          go_wp2_with fail
          go_roundw
          case rel => exact ⟨i + 1, n1, c1, A1, ns, by omega, by omega, by omega, rfl, by go_num, HI⟩
          case measure => simp [intOf]; omega
        · have hd1 : decide (x ∈ ns) = false := decide_eq_false hm
          obtain ⟨W1, hW1⟩ : ∃ W1, wo.setCell ⟨H, x, none⟩ (.bool true) = W1 := ⟨_, rfl⟩
          have HW1 := hid hW1
          clear hW1
          go_upto_region 10 with fail
          rw [HW1.out]
          go_wp2_with fail
          go_loopw [7, 8] (fun v q w2 => ∃ (k m c2 : Nat) (A2 : Option Addr), k ≤ 3 ∧ v = .slice A2 m c2 ∧ q = .int .i64 k ∧ Hid ((tgk x k).length = m) ∧ Hid (Ow W1 w2 43 2 gT (.slice A2 m c2) (tgk x k))) (fun _ q _ => 3 - (intOf q).toNat)
          case atStart => exact ⟨0, 0, 0, none, Nat.zero_le _, rfl, rfl, hid rfl, hid (Ow.nil W1 _ 2 gT)⟩
          case round =>
            obtain ⟨k, m, c2, A2, hk, rfl, rfl, HM, HO⟩ := hrel
            by_cases hk3 : k < 3
            · have k1 : (k : Int) < 3 := by omega
              obtain ⟨d, hd⟩ : ∃ d, digT x k = d := ⟨_, rfl⟩
              have hd4 : d < 4 := by rw [← hd]; exact dig_lt x k
              have HDX := hid (show bits .and .i64 ((x : Int) / 2 ^ (2 * k)) 3 = (d : Int) by rw [bits_dig x hx64 k hk3, hd])
              have HTK := hid (show tgk x (k + 1) = if d = 0 then tgk x k else tgk x k ++ [(k, d)] by rw [← hd]; rfl)
              clear hd
              go_upto_region 14 with fail
              rw [HDX.out]
              by_cases hd0 : d = 0
              · have d1 : decide ((0 : Int) < (d : Int)) = false := by simp [hd0]
                have HTE := hid (show tgk x (k + 1) = tgk x k by rw [HTK.out, if_pos hd0])
                go_wp2_with fail
                go_roundw
                case rel => exact ⟨k + 1, m, c2, A2, by omega, rfl, by go_num, hid (by rw [HTE.out]; exact HM.out), hid (by rw [HTE.out]; exact HO.out)⟩
                case measure => simp [intOf]; omega
              · have d1 : decide ((0 : Int) < (d : Int)) = true := by simp; omega
                have d2 : (0 : Int) < (d : Int) := by omega
                obtain ⟨y, hy⟩ : ∃ y, tgk x k ++ [(k, d)] = y := ⟨_, rfl⟩
                have HY := hid hy
                have HYE := hid (show y = tgk x (k + 1) by rw [← hy, HTK.out, if_neg hd0])
                have HYL := hid (show y.length = m + 1 by rw [← hy, List.length_append, HM.out]; rfl)
                have hm3 : m ≤ 3 := by have := tgk_len x k; have := HM.out; omega
                clear hy
                go_wp2_with fail
                refine (mark_key (k : Int) k _ (by unfold pk; omega) (by omega) (by omega)).mono ?_
                rintro e w4 ⟨rfl, z4⟩
                have O4 := hid (HO.out.step z4)
                clear z4
                go_wp2_with fail
                refine (mark_value _ d _ (by unfold pk; omega) (by omega) (by omega)).mono ?_
                rintro e w5 ⟨rfl, z5⟩
                have O5 := hid (O4.out.step z5)
                clear z5
                go_wp2_with (at_builtin; refine wpList_appY elmT gT_one rfl (.tmp 41) (.tmp 48) rfl (.slice A2 m c2) (tgk x k) rfl (O5.out.alloc _) [(k, d)] y HY rfl (Sl.fresh' _ #[_, _] 43 2 1 _ rfl rfl) rfl (by rw [HYL.out]; simp only [maxLen]; omega) (by rw [HYL.out]; omega) ?_; intro A7 c7 w7 hc7 hc8 O7 G7 _)
                rw [HYL.out] at O7 ⊢
                have O8 := hid (show Ow W1 w7 43 2 gT (.slice A7 (m + 1) c7) (tgk x (k + 1)) by rw [← HYE.out]; exact O7.out)
                have HM8 := hid (show (tgk x (k + 1)).length = m + 1 by rw [← HYE.out]; exact HYL.out)
                clear G7 O7
                go_roundw
                case rel => exact ⟨k + 1, m + 1, c7, A7, by omega, rfl, by go_num, HM8, O8⟩
                case measure => simp [intOf]; omega
            · obtain rfl : k = 3 := by omega
              have HT3 := hid (show TSl wr A2 m (tagsOf x) by rw [← tgk_all x hx64]; exact TSl.own HO.out HM.out)
              have Z3 := hid (show Below W1.heap.size W1 wr from HO.out.below)
              obtain ⟨y, hy⟩ : ∃ y, svs0 ++ [((A2, m, c2) : SS)] = y := ⟨_, rfl⟩
              have HY := hid hy
              have HYL := hid (show y.length = n1 + 1 by rw [← hy, List.length_append, hsl0]; rfl)
              have OS := hid (show Ow w wr 61 1 gSS (.slice A1 n1 c1) svs0 by have := O0.out.setFar (i := x) BH.out (by decide) HI.out.own (.bool true); rw [HW1.out] at this; exact this.step Z3.out)
              clear hy
              go_wp2_with (at_builtin; refine wpList_appY elmTT gSS_one rfl (.tmp 50) (.tmp 52) rfl (.slice A1 n1 c1) svs0 rfl (OS.out.alloc _) [((A2, m, c2) : SS)] y HY rfl (Sl.fresh' _ #[_] 61 1 1 _ rfl rfl) rfl (by rw [HYL.out]; simp only [maxLen]; omega) (by rw [HYL.out]; omega) ?_; intro A7 c7 w7 hc7 hc8 O7 G7 _)
              rw [HYL.out] at O7 ⊢
              have I8 := hid (show IxI w w7 H (ns ++ [x]) A7 (n1 + 1) c7 from IxI.add (c2 := c2) HI.out hx64 hm (by rw [HW1.out]; exact Z3.out) HT3.out (bnew (bnil wr) _) svs0 hsl0 (by rw [HY.out]; exact O7.out) G7.out S0.out O0.out)
              go_roundw
              case rel => exact ⟨i + 1, n1 + 1, c7, A7, ns ++ [x], by omega, by omega, by omega, rfl, by go_num, I8⟩
              case measure => simp [intOf]; omega
      · have i2 : ¬ (i : Int) < 30 := by omega
        have i1 : (i : Int) < (L : Int) := by omega
        go_wp2_with fail
        go_ret
        refine ⟨ns, A1, n1, c1, rfl, ?_, HI.out.ser (by omega), ?_⟩
        · obtain ⟨svs0, hsl0, hO0, _⟩ := HI.out.row
          obtain ⟨A', c', hv, hc1, _⟩ := hO0.form
          injection hv with _ e1 e2
          omega
        · obtain ⟨svs0, hsl0, hO0, _⟩ := HI.out.row
          exact hO0.below
    · have i1 : ¬ (i : Int) < (L : Int) := by omega
      go_wp2_with fail
      go_ret
      refine ⟨ns, A1, n1, c1, rfl, ?_, HI.out.ser (by omega), ?_⟩
      · obtain ⟨svs0, hsl0, hO0, _⟩ := HI.out.row
        obtain ⟨A', c', hv, hc1, _⟩ := hO0.form
        injection hv with _ e1 e2
        omega
      · obtain ⟨svs0, hsl0, hO0, _⟩ := HI.out.row
        exact hO0.below
end Go.Proofs.Ytfdgklfkpofkeaa
