/-
  lin's search in memory: who is ready, what was seen, found and Check: their walks.
-/
import Derived.Test.YtfdgklfkpofkeaaLnObj
import Derived.Test.YtfdgklfkpofkeaaMapV
namespace Go.Proofs.Ytfdgklfkpofkeaa
open Go.RowKit
set_option linter.unusedVariables false

theorem sl_at9 {w : World} {A : Option Addr} {n k : Nat} {vs : List Value} (h : Sl w 1 A n vs) (hk : k < n) : ∃ ad v, A = some ad ∧ vs[k]? = some v ∧ w.cell? (ad.add k) = some v := by
  obtain ⟨ad, e, hc⟩ := h.2 (by omega)
  have hl := h.1
  exact ⟨ad, vs[k]'(by omega), e, List.getElem?_eq_getElem _, hc k _ (List.getElem?_eq_getElem _)⟩
/-- which function is meant by 'next' and by 'same', and what it does -/
structure ObjF (v : Value) (o : LO) (t : TypeId) (u : Value) (F G : FuncId) : Prop where
  val : v = .iface t u
  m1 : ∀ w : World, (method 255 t u "barograph/lin.next").run Try.prog w = .ok (F, u) w
  m2 : ∀ w : World, (method 255 t u "barograph/lin.same").run Try.prog w = .ok (G, u) w
  c1 : ∀ (args : Array Value) (w : World), (callFunc F args).run Try.prog w = .ok (.enter F args) w
  c2 : ∀ (args : Array Value) (w : World), (callFunc G args).run Try.prog w = .ok (.enter G args) w
  nx : ∀ (a : LA) (w : World), ObjAt w v o → Calls Try.prog F #[u, actV a] w (NextPost w o a)
  sm : ∀ (v' : Value) (o' : LO) (w : World), ObjAt w v o → ObjAt w v' o' → o'.kd = o.kd → o'.size ≤ 100 → Calls Try.prog G #[u, v'] w (SamePost w (o' = o))
theorem SamePost.iff {w : World} {P Q : Prop} {e : Ending} {w' : World} (h : SamePost w P e w') (hpq : P ↔ Q) : SamePost w Q e w' := by
  obtain ⟨b, h1, h2, h3⟩ := h; exact ⟨b, h1, h2.trans hpq, h3⟩
theorem objF {w : World} {v : Value} {o : LO} (h : ObjAt w v o) (hs : o.size ≤ 100) : ∃ t u F G, ObjF v o t u F G := by
  cases o with
  | reg x =>
    refine ⟨66, .int .i64 x, 88, 89, h, fun _ => by kernel_rfl, fun _ => by kernel_rfl, fun _ _ => by kernel_rfl, fun _ _ => by kernel_rfl, fun a w _ => reg_next x a w, fun v' o' w _ h' hk _ => ?_⟩
    cases o' with
    | reg y => rw [show v' = _ from h']; exact (reg_same x y w).mono fun e w' hp => hp.iff (by simp)
    | ctr y => simp [LO.kd] at hk
    | heap b l => cases b <;> simp [LO.kd] at hk
  | ctr x =>
    refine ⟨67, .int .i64 x, 90, 91, h, fun _ => by kernel_rfl, fun _ => by kernel_rfl, fun _ _ => by kernel_rfl, fun _ _ => by kernel_rfl, fun a w _ => ctr_next x a w, fun v' o' w _ h' hk _ => ?_⟩
    cases o' with
    | reg y => simp [LO.kd] at hk
    | ctr y => rw [show v' = _ from h']; exact (ctr_same x y w).mono fun e w' hp => hp.iff (by simp)
    | heap b l => cases b <;> simp [LO.kd] at hk
  | heap last l =>
    obtain ⟨A, n, c, rfl, h1, h2, h3⟩ := h
    refine ⟨69, .agg #[.bool last, .slice A n c], 92, 93, rfl, fun _ => by kernel_rfl, fun _ => by kernel_rfl, fun _ _ => by kernel_rfl, fun _ _ => by kernel_rfl, fun a w hw => ?_, fun v' o' w hw h' hk hs' => ?_⟩
    · obtain ⟨A', n', c', e, _, _, hI⟩ := hw
      injection e with _ e; injection e with e
      have e1 : A' = A ∧ n' = n ∧ c' = c := by simp at e; exact ⟨e.1.symm, e.2.1.symm, e.2.2.symm⟩
      obtain ⟨rfl, rfl, rfl⟩ := e1
      exact heap_next last l A' n' c' a w h1 h2 (by have := hI.1; have : l.length ≤ 100 := hs; omega) hI
    · obtain ⟨A', n', c', e, _, _, hI⟩ := hw
      injection e with _ e; injection e with e
      have e1 : A' = A ∧ n' = n ∧ c' = c := by simp at e; exact ⟨e.1.symm, e.2.1.symm, e.2.2.symm⟩
      obtain ⟨rfl, rfl, rfl⟩ := e1
      cases o' with
      | reg y => cases last <;> simp [LO.kd] at hk
      | ctr y => cases last <;> simp [LO.kd] at hk
      | heap lb k =>
        have hlb : lb = last := by cases lb <;> cases last <;> simp [LO.kd] at hk <;> rfl
        subst hlb
        obtain ⟨B, m, d, rfl, _, _, hJ⟩ := h'
        exact (heap_same lb lb l k A' B n' m c' d w (by have := hI.1; have : l.length ≤ 100 := hs; omega) (by have := hJ.1; have : k.length ≤ 100 := hs'; omega) hI hJ).mono fun e w' hp => hp.iff (by simp)

abbrev gP : Value × LO → List Value := fun p => [p.1]
/-- what is listed: values that are objects, all of one kind -/
structure Objs (w : World) (kd : Nat) (ps : List (Value × LO)) : Prop where
  at_ : ∀ p ∈ ps, ObjAt w p.1 p.2
  kd : ∀ p ∈ ps, p.2.kd = kd
  sz : ∀ p ∈ ps, p.2.size ≤ 100
theorem Objs.keep {w w' : World} {kd : Nat} {ps : List (Value × LO)} (h : Objs w kd ps) (hk : ∀ g cs, Blk w g 3 cs → Blk w' g 3 cs) : Objs w' kd ps := ⟨fun p hp => (h.at_ p hp).keep hk, h.kd, h.sz⟩
theorem Objs.below {w w' : World} {kd : Nat} {ps : List (Value × LO)} (h : Objs w kd ps) (hb : Below w.heap.size w w') : Objs w' kd ps := h.keep fun g cs hg => hg.below' hb
set_option maxRecDepth 100000 in
set_option maxHeartbeats 1000000 in
theorem index_objs (A : Option Addr) (n c : Nat) (ps : List (Value × LO)) (v : Value) (o : LO) (t : TypeId) (uu : Value) (F G : FuncId) (w : World) (hn : n ≤ 1000000000) (h : Sl w 1 A n (ps.flatMap gP)) (hO : Objs w o.kd ps) (hF : ObjF v o t uu F G) (hv : ObjAt w v o) :
    Calls Try.prog 48 #[.slice A n c, .func (.method "barograph/lin.same") #[.iface t uu] #[]] w fun e w' => ∃ i : Int, e = .returned (.int .i64 i) ∧ (0 ≤ i ↔ ∃ p ∈ ps, p.2 = o) ∧ Below w.heap.size w w' := by
  have H := hid h; clear h
  have HF := hid hF; clear hF
  have HO := hid hO; clear hO
  have HV := hid hv; clear hv
  have HL := hid (show ps.length = n by have := H.out.1; rw [flatMap_len gP 1 (fun _ => rfl)] at this; omega)
  go_enter Try.func48, Try.ntmps48
  go_wp2
  go_loopw [8] (fun i wr => ∃ k : Nat, k ≤ n ∧ i = .int .i64 k ∧ Hid (Below w.heap.size w wr) ∧ Hid (∀ p ∈ ps.take k, ¬ p.2 = o)) (fun i _ => n - (intOf i).toNat)
  case atStart => exact ⟨0, Nat.zero_le _, rfl, hid (bnil _), hid (by simp)⟩
  case round =>
    obtain ⟨k, hk, rfl, HW, HN⟩ := hrel
    by_cases hlt : k < n
    · obtain ⟨ad, u, rfl, hu, cu⟩ := sl_at9 (H.out.below HW.out) hlt
      obtain ⟨p, hp⟩ : ∃ p, ps[k]? = some p := ⟨_, List.getElem?_eq_getElem (by rw [HL.out]; exact hlt)⟩
      have hpm := List.mem_of_getElem? hp
      have hup : u = p.1 := by
        have h1 := flatMap_at gP 1 (fun _ => rfl) ps k 0 p hp (by decide)
        rw [Nat.mul_one, Nat.add_zero, hu] at h1
        injection h1
      subst hup
      have HP := hid hp
      have HPO := hid (show ObjAt wr p.1 p.2 ∧ p.2.kd = o.kd ∧ p.2.size ≤ 100 from ⟨(HO.out.at_ p hpm).below HW.out, HO.out.kd p hpm, HO.out.sz p hpm⟩)
      have HPM := hid hpm
      clear hu hp hpm
      have i1 : (k : Int) < (n : Int) := by omega
      have hm2 := HF.out.m2
      have hc2 := HF.out.c2
      go_wp2_with fail
      refine (HF.out.sm p.1 p.2 wr (HV.out.below HW.out) HPO.out.1 HPO.out.2.1 HPO.out.2.2).mono ?_
      rintro e w2 ⟨b2, rfl, hb2, z2⟩
      have Z2 := hid (bgo HW.out z2)
      clear z2
      cases b2 with
      | true =>
        have HE := hid (hb2.1 rfl)
        clear hb2
        go_wp2_with fail
        go_ret
        exact ⟨(k : Int), rfl, ⟨fun _ => ⟨p, HPM.out, HE.out⟩, fun _ => by omega⟩, Z2.out⟩
      | false =>
        have HE := hid (show ¬ p.2 = o from fun e => (by have := hb2.2 e; cases this))
        clear hb2
        go_wp2_with fail
        go_roundw
        case rel =>
          refine ⟨k + 1, by omega, by go_num, Z2, hid fun q hq => ?_⟩
          rw [take_next HP.out] at hq
          rcases List.mem_append.1 hq with h | h
          · exact HN.out q h
          · rw [List.mem_singleton.1 h]; exact HE.out
        case measure => simp [intOf]; omega
    · obtain rfl : k = n := by omega
      have HN' := HN.out
      rw [List.take_of_length_le (by rw [HL.out]; exact Nat.le_refl _)] at HN'
      have HN2 := hid HN'
      clear HN'
      go_wp2
      go_ret
      exact ⟨-1, rfl, ⟨fun h => absurd h (by decide), fun ⟨p, hp, e⟩ => absurd e (HN2.out p hp)⟩, HW.out⟩
theorem contains_objs (A : Option Addr) (n c : Nat) (ps : List (Value × LO)) (v : Value) (o : LO) (t : TypeId) (uu : Value) (F G : FuncId) (w : World) (hn : n ≤ 1000000000) (h : Sl w 1 A n (ps.flatMap gP)) (hO : Objs w o.kd ps) (hF : ObjF v o t uu F G) (hv : ObjAt w v o) :
    Calls Try.prog 40 #[.slice A n c, .func (.method "barograph/lin.same") #[.iface t uu] #[]] w fun e w' => SamePost w (∃ p ∈ ps, p.2 = o) e w' := by
  go_enter Try.func40, Try.ntmps40
  go_wp2_with fail
  refine (index_objs A n c ps v o t uu F G w hn h hO hF hv).mono ?_
  rintro e w2 ⟨i, rfl, hi, b2⟩
  by_cases h0 : 0 ≤ i
  · have HI := hid (hi.1 h0)
    have hq : decide ((0 : Int) ≤ i) = true := by simp [h0]
    clear hi
    go_wp2
    go_ret
    exact ⟨true, by simp, ⟨fun _ => HI.out, fun _ => rfl⟩, b2⟩
  · have HI := hid (fun h => h0 (hi.2 h))
    have hq : decide ((0 : Int) ≤ i) = false := by simp [h0]
    clear hi
    go_wp2
    go_ret
    exact ⟨false, by simp, ⟨fun h => (by cases h), fun h => absurd h HI.out⟩, b2⟩
abbrev gA : LA → List Value := fun a => [.int .i64 a.b, .int .i64 a.e, .bool a.put, .int .i64 a.val, .int .i64 a.by_]
theorem bit_zero : ∀ d < 512, ∀ k < 9, (bits BinOp.and .u64 (((d : Nat) : Int) / 2 ^ k) 1 == 0) = !(d.testBit k) := by decide +kernel
theorem bit_one : ∀ d < 512, ∀ k < 9, (bits BinOp.and .u64 (((d : Nat) : Int) / 2 ^ k) 1 == 1) = d.testBit k := by decide +kernel
/-- the acts in memory, and who seeks -/
structure Seek (w : World) (s : Nat) (A : Option Addr) (n c mb : Nat) (l : List LA) : Prop where
  len : l.length = n
  most : n ≤ 9
  blk : Blk w s 73 #[.slice A n c, .map (some mb)]
  acts : Sl w 5 A n (l.flatMap gA)
theorem Seek.at_ {w : World} {s : Nat} {A : Option Addr} {n c mb : Nat} {l : List LA} (h : Seek w s A n c mb l) {k : Nat} (hk : k < n) :
    ∃ ad a, A = some ad ∧ l[k]? = some a ∧ w.cell? (ad.add (k * 5)) = some (.int .i64 a.b) ∧ w.cell? ⟨(ad.add (k * 5)).block, (ad.add (k * 5)).off + 1, none⟩ = some (.int .i64 a.e) ∧ w.cell? ⟨(ad.add (k * 5)).block, (ad.add (k * 5)).off + 2, none⟩ = some (.bool a.put)
      ∧ w.cell? ⟨(ad.add (k * 5)).block, (ad.add (k * 5)).off + 3, none⟩ = some (.int .i64 a.val) ∧ w.cell? ⟨(ad.add (k * 5)).block, (ad.add (k * 5)).off + 4, none⟩ = some (.int .i64 a.by_) := by
  obtain ⟨ad, e, hc⟩ := h.acts.2 (by omega)
  have hl := h.len
  have ha : l[k]? = some l[k] := List.getElem?_eq_getElem (by omega)
  have F := fun (j : Nat) (hj : j < 5) (u : Value) (hu : (gA l[k])[j]? = some u) => hc (k * 5 + j) u (by rw [flatMap_at gA 5 (fun _ => rfl) l k j _ ha hj]; exact hu)
  exact ⟨ad, l[k], e, ha, F 0 (by decide) _ rfl, cell_next (by decide) (F 1 (by decide) _ rfl), cell_next (by decide) (F 2 (by decide) _ rfl), cell_next (by decide) (F 3 (by decide) _ rfl), cell_next (by decide) (F 4 (by decide) _ rfl)⟩
theorem Seek.below {w w' : World} {s : Nat} {A : Option Addr} {n c mb : Nat} {l : List LA} (h : Seek w s A n c mb l) (hb : Below w.heap.size w w') : Seek w' s A n c mb l := ⟨h.len, h.most, h.blk.below' hb, h.acts.below hb⟩

set_option maxHeartbeats 2000000 in
set_option maxRecDepth 100000 in
theorem seek_ready (s : Nat) (A : Option Addr) (n c mb : Nat) (l : List LA) (d i : Nat) (a : LA) (w : World) (h : Seek w s A n c mb l) (hd : d < 512) (hi : l[i]? = some a) :
    Calls Try.prog 41 #[.pointer (some ⟨s, 0, none⟩), .int .u64 (d : Int), .int .i64 (i : Int)] w fun e w' => SamePost w (Rdy l d a) e w' := by
  have H := hid h; clear h
  have c0 : w.cell? ⟨s, 0, none⟩ = some (.slice A n c) := H.out.blk.cell 0
  have HI := hid hi
  have hin : i < n := by have := (List.getElem?_eq_some_iff.1 hi).1; have := H.out.len; omega
  clear hi
  have HC0 := hid c0
  go_enter Try.func41, Try.ntmps41
  go_wp2
  go_loopw [14] (fun q wr => ∃ k : Nat, k ≤ n ∧ q = .int .i64 k ∧ Hid (Below w.heap.size w wr) ∧ Hid (∀ j b, j < k → l[j]? = some b → d.testBit j = false → b.e ≠ -1 → ¬ b.e < a.b)) (fun q _ => n - (intOf q).toNat)
  case atStart => exact ⟨0, Nat.zero_le _, rfl, hid (bnil _), hid (fun j b h => by omega)⟩
  case round =>
    obtain ⟨k, hk, rfl, HW, HR⟩ := hrel
    have e0 := cell_below HW.out HC0.out
    by_cases hlt : k < n
    · obtain ⟨ad, b, rfl, hb, f0, f1, f2, f3, f4⟩ := (H.out.below HW.out).at_ hlt
      have HBK := hid hb
      clear hb
      have i1 : (k : Int) < (n : Int) := by omega
      have i2 : (i : Int) < (n : Int) := by omega
      have hkb := bit_zero d hd k (by have := H.out.most; omega)
      have B2 := hid (fun q => bgo HW.out (bgo (bnew (bnil wr) (.cells #[.int .i64 b.b, .int .i64 b.e, .bool b.put, .int .i64 b.val, .int .i64 b.by_] 32)) (below_drewN (bnil _) q)))
      obtain ⟨ad', a', had, ha', g0, _⟩ := (H.out.below HW.out).at_ hin
      injection had with had
      subst had
      rw [HI.out] at ha'
      injection ha' with ha'
      subst ha'
      have hn9 := H.out.most
      have l1 := World.block_lt_of_cell? _ _ e0
      have l2 := World.block_lt_of_cell? _ _ g0
      cases hbt : d.testBit k with
      | true =>
        rw [hbt] at hkb
        have hq : (bits BinOp.and .u64 ((d : Int) / 2 ^ k) 1 == 0) = false := hkb
        have HBT := hid hbt
        clear hbt hkb
        go_upto_region 4 with fail
        go_quiet (fail)
        go_wp2_with fail
        go_roundw
        case rel =>
          refine ⟨k + 1, by omega, by go_num, hid (B2.out nq), hid fun j x hj hx hd2 he => ?_⟩
          rcases Nat.lt_or_ge j k with h | h
          · exact HR.out j x h hx hd2 he
          · obtain rfl : j = k := by omega
            rw [HBT.out] at hd2; cases hd2
        case measure => simp [intOf]; omega
      | false =>
        rw [hbt] at hkb
        have hq : (bits BinOp.and .u64 ((d : Int) / 2 ^ k) 1 == 0) = true := hkb
        have HBT := hid hbt
        clear hbt hkb
        by_cases hbe : b.e = -1
        · have hq2 : ((b.e : Int) != -1) = false := by simp [hbe]
          have HBE := hid hbe
          clear hbe
          go_upto_region 4 with fail
          go_quiet (fail)
          go_wp2_with fail
          go_roundw
          case rel =>
            refine ⟨k + 1, by omega, by go_num, hid (B2.out nq), hid fun j x hj hx hd2 he => ?_⟩
            rcases Nat.lt_or_ge j k with h | h
            · exact HR.out j x h hx hd2 he
            · obtain rfl : j = k := by omega
              rw [HBK.out] at hx; injection hx with hx; subst hx
              exact absurd HBE.out he
          case measure => simp [intOf]; omega
        · have hq2 : ((b.e : Int) != -1) = true := by simp [hbe]
          have HBE := hid hbe
          clear hbe
          by_cases hlt2 : b.e < a.b
          · have HLT := hid hlt2
            have hq3 : decide (b.e < a.b) = true := by simp [hlt2]
            clear hlt2
            go_upto_region 4 with fail
            go_quiet (fail)
            go_wp2_with fail
            go_ret
            exact ⟨false, rfl, ⟨fun h => (by cases h), fun h => absurd HLT.out (h k b HBK.out HBT.out HBE.out)⟩, B2.out nq⟩
          · have HLT := hid hlt2
            have hq3 : decide (b.e < a.b) = false := by simp; omega
            clear hlt2
            go_upto_region 4 with fail
            go_quiet (fail)
            go_wp2_with fail
            go_roundw
            case rel =>
              refine ⟨k + 1, by omega, by go_num, hid (B2.out nq), hid fun j x hj hx hd2 he => ?_⟩
              rcases Nat.lt_or_ge j k with h | h
              · exact HR.out j x h hx hd2 he
              · obtain rfl : j = k := by omega
                rw [HBK.out] at hx; injection hx with hx; subst hx
                exact HLT.out
            case measure => simp [intOf]; omega
    · obtain rfl : k = n := by omega
      go_wp2
      go_ret
      exact ⟨true, rfl, ⟨fun _ => fun j b hj hd2 he => (by have := HR.out j b (by have := (List.getElem?_eq_some_iff.1 hj).1; have := H.out.len; omega) hj hd2 he; omega), fun _ => rfl⟩, HW.out⟩
end Go.Proofs.Ytfdgklfkpofkeaa
