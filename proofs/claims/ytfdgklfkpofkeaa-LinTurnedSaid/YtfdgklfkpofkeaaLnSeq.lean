/-
  Histories told one behind the other, and what the laws do to them: plain laws.
-/
import Derived.Test.YtfdgklfkpofkeaaNum
import Derived.Test.YtfdgklfkpofkeaaLnMath
namespace Go.Proofs.Ytfdgklfkpofkeaa
open Go.RowKit
set_option linter.unusedVariables false

/-- what an act is made of -/
structure VDeal where
  put : Bool
  val : Int
  early : Int
  late : Int
  opn : Bool

/-- what an object tells: what it has then, the value, the addition -/
def LO.tell : LO → Bool → Int → LO × Int × Int
  | .reg r, p, v => if p = true then (.reg v, v, 0) else (.reg r, r, 0)
  | .ctr c, p, v => if p = true then (.ctr (c + v), c, v) else (.ctr c, c, 0)
  | .heap last l, p, v =>
    if p = true then (.heap last (l ++ [v]), v, 0)
    else if l = [] then (.heap last [], -1, 0)
    else if last = true then (.heap true l.dropLast, l.getLastD 0, 0)
    else (.heap false l.tail, l.headD 0, 0)

/-- small: so that no sum is too great -/
def LO.small (n : Nat) : LO → Prop
  | .reg v => 0 ≤ v ∧ v ≤ 4
  | .ctr c => 0 ≤ c ∧ c ≤ 4 + 3 * (n : Int)
  | .heap _ l => l.length ≤ n ∧ ∀ x ∈ l, 0 ≤ x ∧ x ≤ 3

theorem tell_small {n : Nat} {o : LO} {p : Bool} {v : Int} (h : o.small n) (hv : 0 ≤ v ∧ v ≤ 3) : (o.tell p v).1.small (n + 1) ∧ -1 ≤ (o.tell p v).2.1 ∧ (o.tell p v).1.kd = o.kd := by
  cases o with
  | reg r => obtain ⟨h1, h2⟩ := h; cases p <;> simp [LO.tell, LO.small, LO.kd] <;> omega
  | ctr c =>
    obtain ⟨h1, h2⟩ := h
    cases p
    · refine ⟨⟨h1, ?_⟩, ?_, rfl⟩
      · show c ≤ 4 + 3 * ((n + 1 : Nat) : Int); omega
      · show -1 ≤ c; omega
    · refine ⟨⟨?_, ?_⟩, ?_, rfl⟩
      · show 0 ≤ c + v; omega
      · show c + v ≤ 4 + 3 * ((n + 1 : Nat) : Int); omega
      · show -1 ≤ c; omega
  | heap last l =>
    obtain ⟨h1, h2⟩ := h
    cases p
    · cases l with
      | nil => refine ⟨⟨by show ([] : List Int).length ≤ n + 1; simp, by intro y hy; cases hy⟩, by show (-1 : Int) ≤ -1; omega, by cases last <;> rfl⟩
      | cons x t =>
        have hx := h2 x List.mem_cons_self
        cases last
        · refine ⟨⟨?_, fun y hy => h2 y (List.mem_cons_of_mem _ hy)⟩, ?_, rfl⟩
          · show t.length ≤ n + 1; simp at h1; omega
          · show -1 ≤ x; omega
        · refine ⟨⟨?_, fun y hy => h2 y (List.dropLast_subset _ hy)⟩, ?_, rfl⟩
          · show (x :: t).dropLast.length ≤ n + 1; simp at h1 ⊢; omega
          · show -1 ≤ (x :: t).getLastD 0
            rw [List.getLastD_cons, ← List.getLast_eq_getLastD (by simp : x :: t ≠ [])]
            have := h2 _ (List.getLast_mem (by simp : x :: t ≠ [])); omega
    · refine ⟨⟨?_, ?_⟩, ?_, by cases last <;> rfl⟩
      · show (l ++ [v]).length ≤ n + 1; simp; omega
      · intro y hy
        rcases List.mem_append.1 hy with hy | hy
        · exact h2 y hy
        · simp at hy; subst hy; exact hv
      · show -1 ≤ v; omega

theorem wrap_small {x : Int} (h0 : 0 ≤ x) (h1 : x ≤ 1000000) : wrap64 x = x := by unfold wrap64; omega

/-- an act that tells what the object tells -/
theorem next_tell {n : Nat} (hn : n ≤ 1000) {o : LO} {p : Bool} {v b e : Int} (h : o.small n) (hv : 0 ≤ v ∧ v ≤ 3) : o.next ⟨b, e, p, (o.tell p v).2.1, (o.tell p v).2.2⟩ = ((o.tell p v).1, (o.tell p v).2.1) := by
  cases o with
  | reg r => cases p <;> rfl
  | ctr c =>
    obtain ⟨h1, h2⟩ := h
    cases p
    · show (LO.ctr (wrap64 (c + 0)), c) = (LO.ctr c, c)
      rw [Int.add_zero, wrap_small h1 (by omega)]
    · show (LO.ctr (wrap64 (c + v)), c) = (LO.ctr (c + v), c)
      rw [wrap_small (by omega) (by omega)]
  | heap last l =>
    cases p
    · by_cases hl : l = []
      · simp [LO.next, LO.tell, hl]
      · cases last <;> simp [LO.next, LO.tell, hl]
    · rfl

def seqAct (w : Bool) (i : Nat) (x : VDeal) (v y : Int) : LA :=
  ⟨100 + 10 * (i : Int) - (if w = true then (pk x.early 40 : Int) else 0), if w = true then (if x.opn = true then -1 else 105 + 10 * (i : Int) + (pk x.late 40 : Int)) else 105 + 10 * (i : Int), x.put, v, y⟩

def seqL (w : Bool) : LO → Nat → List VDeal → List LA
  | _, _, [] => []
  | o, i, x :: t => seqAct w i x (o.tell x.put (pk x.val 4)).2.1 (o.tell x.put (pk x.val 4)).2.2 :: seqL w (o.tell x.put (pk x.val 4)).1 (i + 1) t

def stL : LO → List VDeal → LO
  | o, [] => o
  | o, x :: t => stL (o.tell x.put (pk x.val 4)).1 t

theorem pk4 (a : Int) : 0 ≤ (pk a 4 : Int) ∧ (pk a 4 : Int) ≤ 3 := by have := pk_lt a 4 (by decide); omega
theorem pk40 (a : Int) : 0 ≤ (pk a 40 : Int) ∧ (pk a 40 : Int) ≤ 39 := by have := pk_lt a 40 (by decide); omega

theorem seqL_snoc (w : Bool) (x : VDeal) : ∀ (l : List VDeal) (o : LO) (i : Nat), seqL w o i (l ++ [x]) = seqL w o i l ++ [seqAct w (i + l.length) x ((stL o l).tell x.put (pk x.val 4)).2.1 ((stL o l).tell x.put (pk x.val 4)).2.2]
  | [], o, i => rfl
  | y :: t, o, i => by
    show _ :: seqL w _ (i + 1) (t ++ [x]) = _
    rw [seqL_snoc w x t]
    show _ = _ :: (seqL w _ (i + 1) t ++ _)
    rw [show i + (y :: t).length = i + 1 + t.length by rw [List.length_cons]; omega]
    rfl

theorem stL_snoc (x : VDeal) : ∀ (l : List VDeal) (o : LO), stL o (l ++ [x]) = ((stL o l).tell x.put (pk x.val 4)).1
  | [], o => rfl
  | y :: t, o => stL_snoc x t _

theorem stL_small : ∀ (l : List VDeal) (o : LO) (n : Nat), o.small n → (stL o l).small (n + l.length) ∧ (stL o l).kd = o.kd
  | [], o, n, h => ⟨h, rfl⟩
  | x :: t, o, n, h => by
    obtain ⟨h1, _, h3⟩ := tell_small (p := x.put) (v := (pk x.val 4 : Int)) h (pk4 _)
    obtain ⟨h4, h5⟩ := stL_small t _ _ h1
    refine ⟨?_, h5.trans h3⟩
    show (stL _ t).small _
    rw [show n + (x :: t).length = n + 1 + t.length by rw [List.length_cons]; omega]
    exact h4

theorem seqL_length (w : Bool) : ∀ (l : List VDeal) (o : LO) (i : Nat), (seqL w o i l).length = l.length
  | [], _, _ => rfl
  | x :: t, o, i => by show (seqL w _ _ t).length + 1 = t.length + 1; rw [seqL_length w t]

theorem seqL_runs (w : Bool) : ∀ (l : List VDeal) (o : LO) (i n : Nat), o.small n → n + l.length ≤ 1000 → Runs o (seqL w o i l)
  | [], _, _, _, _, _ => trivial
  | x :: t, o, i, n, h, hn => by
    rw [List.length_cons] at hn
    have h1 := next_tell (n := n) (by omega) (p := x.put) (v := (pk x.val 4 : Int)) (b := (seqAct w i x (o.tell x.put (pk x.val 4)).2.1 (o.tell x.put (pk x.val 4)).2.2).b) (e := (seqAct w i x (o.tell x.put (pk x.val 4)).2.1 (o.tell x.put (pk x.val 4)).2.2).e) h (pk4 _)
    have h2 : o.next (seqAct w i x (o.tell x.put (pk x.val 4)).2.1 (o.tell x.put (pk x.val 4)).2.2) = ((o.tell x.put (pk x.val 4)).1, (o.tell x.put (pk x.val 4)).2.1) := h1
    refine ⟨.inr (by rw [h2]; rfl), ?_⟩
    show Runs (o.next (seqAct w i x (o.tell x.put (pk x.val 4)).2.1 (o.tell x.put (pk x.val 4)).2.2)).1 _
    rw [h2]
    exact seqL_runs w t _ (i + 1) (n + 1) (tell_small h (pk4 _)).1 (by omega)

/-- where an act of such a history lies -/
structure Lies (w : Bool) (i : Nat) (a : LA) : Prop where
  b0 : 61 + 10 * (i : Int) ≤ a.b
  b1 : a.b ≤ 100 + 10 * (i : Int)
  e : (a.e = -1 ∧ w = true) ∨ 105 + 10 * (i : Int) ≤ a.e
  e1 : a.e ≤ 144 + 10 * (i : Int)
  n0 : w = false → a.b = 100 + 10 * (i : Int) ∧ a.e = 105 + 10 * (i : Int)
theorem lies_act (w : Bool) (i : Nat) (x : VDeal) (v y : Int) : Lies w i (seqAct w i x v y) := by
  have h1 := pk40 x.early
  have h2 := pk40 x.late
  cases w
  · refine ⟨?_, ?_, ?_, ?_, ?_⟩ <;> simp [seqAct] <;> omega
  · cases hx : x.opn <;> refine ⟨?_, ?_, ?_, ?_, ?_⟩ <;> simp [seqAct, hx] <;> omega

theorem seqL_get (w : Bool) : ∀ (l : List VDeal) (o : LO) (i n j : Nat) (a : LA), o.small n → (seqL w o i l)[j]? = some a →
    Lies w (i + j) a ∧ -1 ≤ a.val ∧ (a.by_ = 0 ∨ (o.kd = 1 ∧ a.put = true)) ∧ (a.put = true → o.kd ≠ 1 → 0 ≤ a.val)
  | [], _, _, _, _, _, _, h => by simp [seqL] at h
  | x :: t, o, i, n, 0, a, hs, h => by
    have h0 : seqAct w i x (o.tell x.put (pk x.val 4)).2.1 (o.tell x.put (pk x.val 4)).2.2 = a := by simpa [seqL] using h
    subst h0
    refine ⟨lies_act w i x _ _, (tell_small hs (pk4 _)).2.1, ?_, ?_⟩
    · show (o.tell x.put (pk x.val 4)).2.2 = 0 ∨ (o.kd = 1 ∧ x.put = true)
      cases o with
      | reg v => left; unfold LO.tell; dsimp only; split <;> rfl
      | ctr v =>
        cases hp : x.put
        · left; rfl
        · exact .inr ⟨rfl, rfl⟩
      | heap last l => left; unfold LO.tell; dsimp only; split; · rfl
                       · split; · rfl
                         · split <;> rfl
    · show x.put = true → o.kd ≠ 1 → 0 ≤ (o.tell x.put (pk x.val 4)).2.1
      intro hp hk
      rw [hp]
      have := pk4 x.val
      cases o with
      | reg v => exact this.1
      | ctr v => exact absurd rfl hk
      | heap last l => exact this.1
  | x :: t, o, i, n, j + 1, a, hs, h => by
    have h1 := tell_small (p := x.put) hs (pk4 x.val)
    have := seqL_get w t (o.tell x.put (pk x.val 4)).1 (i + 1) (n + 1) j a h1.1 (by simpa [seqL] using h)
    rw [h1.2.2] at this
    rw [show i + (j + 1) = i + 1 + j by omega]
    exact this

theorem pair_of {α : Type} {R : α → α → Prop} : ∀ {l : List α}, (∀ (i j : Nat) (a b : α), i < j → l[i]? = some a → l[j]? = some b → R a b) → l.Pairwise R
  | [], _ => .nil
  | x :: t, h => List.pairwise_cons.2 ⟨fun b hb => by
      obtain ⟨j, hj⟩ := List.getElem?_of_mem hb
      exact h 0 (j + 1) x b (by omega) rfl (by simpa using hj), pair_of fun i j a b hij ha hb => h (i + 1) (j + 1) a b (by omega) (by simpa using ha) (by simpa using hb)⟩

/-- what may be asked of the search -/
def LMay (k : Nat) (a : LA) : Prop := 0 ≤ a.b ∧ a.b ≤ 1048576 ∧ (a.e = -1 ∨ (a.b ≤ a.e ∧ a.e ≤ 1048576)) ∧ (a.by_ = 0 ∨ (k = 1 ∧ a.put = true)) ∧ (2 ≤ k → a.val < 0 → a.put = false ∧ a.val = -1)

theorem seqL_may {w : Bool} {l : List VDeal} {o : LO} (hs : o.small 0) (hl : l.length ≤ 9) {a : LA} (ha : a ∈ seqL w o 0 l) : LMay o.kd a := by
  obtain ⟨j, hj⟩ := List.getElem?_of_mem ha
  have hj9 : j < 9 := by have := (List.getElem?_eq_some_iff.1 hj).1; rw [seqL_length] at this; omega
  obtain ⟨⟨h1, h2, h3, h4, _⟩, h5, h6, h7⟩ := seqL_get w l o 0 0 j a hs hj
  refine ⟨by omega, by omega, by omega, h6, fun hk hv => ?_⟩
  cases hp : a.put
  · exact ⟨rfl, by omega⟩
  · have := h7 hp (by omega); omega

theorem seqL_lin (w : Bool) (l : List VDeal) (o : LO) (hs : o.small 0) (hl : l.length ≤ 9) (x : List LA) (hx : ∀ a ∈ x, a.e = -1) : LinR (seqL w o 0 l ++ x) o := by
  refine linR_runs _ o x (seqL_runs w l o 0 0 hs (by omega)) hx (pair_of fun i j a b hij ha hb he => ?_) (fun a ha he => ?_)
  · obtain ⟨⟨h1, h2, h3, _, _⟩, _⟩ := seqL_get w l o 0 0 i a hs ha
    obtain ⟨⟨h4, h5, h6, _, _⟩, _⟩ := seqL_get w l o 0 0 j b hs hb
    omega
  · obtain ⟨j, hj⟩ := List.getElem?_of_mem ha
    obtain ⟨⟨h1, h2, h3, _, _⟩, _⟩ := seqL_get w l o 0 0 j a hs hj
    omega

/-- another value of an act -/
def LA.more (a : LA) (x : Int) : LA := ⟨a.b, a.e, a.put, a.val + x, a.by_⟩

theorem runs_more {x : Int} (hx : x ≠ 0) : ∀ (l : List LA) (o : LO) (i : Nat) (a : LA), Runs o l → l[i]? = some a → a.e ≠ -1 → (a.put = true → o.kd = 1) → ¬ Runs o (l.set i (a.more x))
  | [], _, _, _, _, h, _, _, _ => by simp at h
  | c :: t, o, 0, a, hr, h, he, hp, hq => by
    simp at h; subst h
    have h1 : (o.next (c.more x)).2 = c.val + x := by
      rcases hq.1 with h | h
      · exact absurd h he
      · exact h
    have h2 : (o.next c).2 = c.val := by
      rcases hr.1 with h | h
      · exact absurd h he
      · exact h
    have h3 : (o.next (c.more x)).2 = (o.next c).2 := by
      cases hput : c.put
      · cases o with
        | reg v => simp [LO.next, LA.more, hput]
        | ctr v => rfl
        | heap last l => by_cases hl : l = [] <;> cases last <;> simp [LO.next, LA.more, hput, hl]
      · have hk := hp hput
        cases o with
        | reg v => simp [LO.kd] at hk
        | ctr v => rfl
        | heap last l => cases last <;> simp [LO.kd] at hk
    omega
  | c :: t, o, i + 1, a, hr, h, he, hp, hq => by
    exact runs_more hx t (o.next c).1 i a hr.2 (by simpa using h) he (by rw [next_kd]; exact hp) hq.2

theorem seq_tells (l : List VDeal) (o : LO) (hs : o.small 0) (hl : l.length ≤ 9) {i : Nat} {a : LA} {x : Int} (hx : x ≠ 0) (ha : (seqL false o 0 l)[i]? = some a) (hp : a.put = true → o.kd = 1) : ¬ LinR ((seqL false o 0 l).set i (a.more x)) o := by
  have hget : ∀ (j : Nat) (b : LA), ((seqL false o 0 l).set i (a.more x))[j]? = some b → b.b = 100 + 10 * (j : Int) ∧ b.e = 105 + 10 * (j : Int) := by
    intro j b hb
    rw [List.getElem?_set] at hb
    split at hb
    · rename_i hij
      subst hij
      split at hb
      · injection hb with hb
        subst hb
        have := (seqL_get false l o 0 0 i a hs ha).1.n0 rfl
        rw [Nat.zero_add] at this
        exact this
      · cases hb
    · have := (seqL_get false l o 0 0 j b hs hb).1.n0 rfl
      rw [Nat.zero_add] at this
      exact this
  intro hR
  refine runs_more hx _ o i a (seqL_runs false l o 0 0 hs (by omega)) ha ?_ hp (linR_only _ o hR ?_ (pair_of fun i j a b hij ha hb => ?_))
  · have := (seqL_get false l o 0 0 i a hs ha).1.n0 rfl; omega
  · intro b hb
    obtain ⟨j, hj⟩ := List.getElem?_of_mem hb
    have := hget j b hj
    omega
  · have := hget i a ha; have := hget j b hb; omega

/-- what has ended behind a time has not ended then -/
def LA.cut (t : Int) (a : LA) : LA := ⟨a.b, if a.e > t then -1 else a.e, a.put, a.val, a.by_⟩
def partL (t : Int) (l : List LA) : List LA := (l.filter fun a => decide (a.b ≤ t)).map (·.cut t)
theorem next_cut (t : Int) (o : LO) (a : LA) : o.next (a.cut t) = o.next a := by cases o <;> rfl

theorem part_lin (w : Bool) (t : Int) : ∀ (l : List LA) (o : LO) (i : Nat), (∀ j a, l[j]? = some a → Lies w (i + j) a) → Runs o l → LinR (partL t l) o
  | [], o, _, _, _ => .rest (by simp [partL])
  | a :: r, o, i, hl, hr => by
    by_cases hall : ∀ b ∈ partL t (a :: r), b.e = -1
    · exact .rest hall
    · have hex : ∃ b ∈ partL t (a :: r), b.e ≠ -1 := by
        apply Classical.byContradiction
        intro hno
        exact hall fun b hb => Classical.byContradiction fun he => hno ⟨b, hb, he⟩
      obtain ⟨b, hb, hbe⟩ := hex
      obtain ⟨c, hc, rfl⟩ := List.mem_map.1 hb
      have hc' := (List.mem_filter.1 hc).1
      obtain ⟨j, hj⟩ := List.getElem?_of_mem hc'
      have h1 := hl j c hj
      have h0 := hl 0 a rfl
      have hce : c.e ≤ t ∧ c.e ≠ -1 := by
        change (if c.e > t then -1 else c.e) ≠ -1 at hbe
        split at hbe
        · exact absurd rfl hbe
        · omega
      have hab : a.b ≤ t := by
        have := h0.b1
        have := h1.e
        omega
      have hpart : partL t (a :: r) = a.cut t :: partL t r := by unfold partL; rw [List.filter_cons_of_pos (by simpa using hab)]; rfl
      rw [hpart]
      refine .take (a.cut t) (partL t r) (.refl _) ?_ ?_ ?_
      · intro d hd hde
        rw [← hpart] at hd
        obtain ⟨c2, hc2, rfl⟩ := List.mem_map.1 hd
        obtain ⟨j2, hj2⟩ := List.getElem?_of_mem (List.mem_filter.1 hc2).1
        have h2 := hl j2 c2 hj2
        change (if c2.e > t then -1 else c2.e) ≠ -1 at hde
        show ¬ (if c2.e > t then -1 else c2.e) < a.b
        have := h0.b1
        have := h2.e
        split at hde
        · exact absurd rfl hde
        · rename_i hle; rw [if_neg hle]; omega
      · rw [next_cut]
        rcases hr.1 with h | h
        · exact .inl (by show (if a.e > t then -1 else a.e) = -1; split <;> omega)
        · exact .inr h
      · rw [next_cut]
        exact part_lin w t r _ (i + 1) (fun j b hj => by have := hl (j + 1) b (by simpa using hj); rw [show i + 1 + j = i + (j + 1) by omega]; exact this) hr.2

theorem seq_part (t : Int) (l : List VDeal) (o : LO) (hs : o.small 0) (hl : l.length ≤ 9) : LinR (partL t (seqL true o 0 l)) o :=
  part_lin true t _ o 0 (fun j a ha => (seqL_get true l o 0 0 j a hs ha).1) (seqL_runs true l o 0 0 hs (by omega))

/-! ### turned round, and later -/
theorem turn_lin {s : Int} (hs : 0 ≤ s) {l l' : List LA} {o : LO} (hp : l'.Perm (l.map (·.later s))) (hl : ∀ a ∈ l, -1 ≤ a.e) : LinR l o ↔ LinR l' o :=
  ⟨fun h => (linR_later hs h hl).perm hp.symm, fun h => linR_earlier hs h l hp hl⟩

/-- from a place on, round the end -/
def turnL {α : Type} (l : List α) (r k : Nat) : List α := (List.range k).filterMap fun i => l[(i + r) % l.length]?
theorem turnL_succ {α : Type} (l : List α) (r k : Nat) (x : α) (h : l[(k + r) % l.length]? = some x) : turnL l r (k + 1) = turnL l r k ++ [x] := by
  unfold turnL; rw [List.range_succ, List.filterMap_append]; simp [h]
theorem turnL_all {α : Type} (l : List α) {r : Nat} (hr : r < l.length) : turnL l r l.length = l.drop r ++ l.take r := by
  have key : ∀ k, k ≤ l.length → turnL l r k = (l.drop r ++ l.take r).take k := by
    intro k
    induction k with
    | zero => intro _; simp [turnL]
    | succ k ih =>
      intro hk
      have hlt : (k + r) % l.length < l.length := Nat.mod_lt _ (by omega)
      rw [turnL_succ l r k _ (List.getElem?_eq_getElem hlt), ih (by omega), List.take_add_one]
      congr 1
      show (some l[(k + r) % l.length]).toList = _
      rw [← List.getElem?_eq_getElem hlt]
      by_cases h : k + r < l.length
      · rw [List.getElem?_append_left (by rw [List.length_drop]; omega), List.getElem?_drop, Nat.mod_eq_of_lt h, Nat.add_comm k r]
      · rw [List.getElem?_append_right (by rw [List.length_drop]; omega), List.length_drop, List.getElem?_take, if_pos (by omega), Nat.mod_eq_sub_mod (by omega), Nat.mod_eq_of_lt (by omega), show k + r - l.length = k - (l.length - r) by omega]
  have := key l.length (Nat.le_refl _)
  rw [this, List.take_of_length_le (by simp; omega)]
theorem turnL_perm {α : Type} (l : List α) {r : Nat} (hr : r < l.length) : (turnL l r l.length).Perm l := by
  rw [turnL_all l hr]
  exact List.perm_append_comm.trans (by rw [List.take_append_drop])
theorem turnL_nil {α : Type} (r k : Nat) : turnL ([] : List α) r k = [] := by simp [turnL]

/-! ### one act alone -/
theorem one_yes : LinR [⟨1, 2, false, 0, 0⟩] (.reg 0) := .take ⟨1, 2, false, 0, 0⟩ [] (.refl _) (by simp) (.inr rfl) (.rest (by simp))
theorem one_no : ¬ LinR [⟨1, 2, false, 1, 0⟩] (.reg 0) := by
  intro h
  have := linR_only _ _ h (by simp) (by simp)
  simp [Runs, LO.next] at this
end Go.Proofs.Ytfdgklfkpofkeaa
