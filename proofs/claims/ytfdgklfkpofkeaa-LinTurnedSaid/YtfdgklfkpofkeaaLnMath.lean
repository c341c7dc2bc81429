/-
  Histories of an object that could be one behind the other: plain laws of a search over sets of acts.
-/
import Derived.Test.YtfdgklfkpofkeaaBase
namespace Go.Proofs.Ytfdgklfkpofkeaa
open Go.RowKit
set_option linter.unusedVariables false

/-- an act of a history -/
structure LA where
  b : Int
  e : Int
  put : Bool
  val : Int
  by_ : Int

/-- an object: a register, a counter, a queue or a stack (last) -/
inductive LO
  | reg (v : Int)
  | ctr (v : Int)
  | heap (last : Bool) (l : List Int)

def LO.next : LO → LA → LO × Int
  | .reg v, a => if a.put = true then (.reg a.val, a.val) else (.reg v, v)
  | .ctr c, a => (.ctr (wrap64 (c + a.by_)), c)
  | .heap last l, a =>
    if a.put = true then (.heap last (l ++ [a.val]), a.val)
    else if l = [] then (.heap last [], -1)
    else if last = true then (.heap true l.dropLast, l.getLastD 0)
    else (.heap false l.tail, l.headD 0)

/-- which kind it is -/
def LO.kd : LO → Nat
  | .reg _ => 0
  | .ctr _ => 1
  | .heap false _ => 2
  | .heap true _ => 3

theorem next_kd (o : LO) (a : LA) : (o.next a).1.kd = o.kd := by
  cases o with
  | reg v => by_cases h : a.put = true <;> simp [LO.next, h, LO.kd]
  | ctr c => rfl
  | heap last l => by_cases h : a.put = true <;> by_cases h2 : l = [] <;> cases last <;> simp [LO.next, h, h2, LO.kd]

/-- the acts that are left can be ordered -/
inductive LinR : List LA → LO → Prop
  | rest {l : List LA} {o : LO} : (∀ a ∈ l, a.e = -1) → LinR l o
  | take {l : List LA} {o : LO} (a : LA) (r : List LA) : l.Perm (a :: r) → (∀ b ∈ l, b.e ≠ -1 → ¬ b.e < a.b) → (a.e = -1 ∨ (o.next a).2 = a.val) → LinR r (o.next a).1 → LinR l o

theorem LinR.perm {l l' : List LA} {o : LO} (h : LinR l o) (hp : l.Perm l') : LinR l' o := by
  cases h with
  | rest h => exact .rest fun a ha => h a (hp.mem_iff.2 ha)
  | take a r h1 h2 h3 h4 => exact .take a r (hp.symm.trans h1) (fun b hb => h2 b (hp.mem_iff.2 hb)) h3 h4

/-! ### the acts that are not in a set (a number's bits) -/
def restF (d : Nat) : Nat → List LA → List LA
  | _, [] => []
  | k, a :: t => if d.testBit k = true then restF d (k + 1) t else a :: restF d (k + 1) t

theorem restF_mem {d : Nat} {b : LA} : ∀ {l : List LA} {k : Nat}, b ∈ restF d k l ↔ ∃ j, l[j]? = some b ∧ d.testBit (k + j) = false
  | [], k => by simp [restF]
  | a :: t, k => by
    have ih := restF_mem (d := d) (b := b) (l := t) (k := k + 1)
    unfold restF
    constructor
    · intro h
      split at h
      · obtain ⟨j, h1, h2⟩ := ih.1 h
        exact ⟨j + 1, h1, by rw [← h2]; congr 1; omega⟩
      · rename_i hb
        rcases List.mem_cons.1 h with rfl | h
        · exact ⟨0, rfl, by simpa using hb⟩
        · obtain ⟨j, h1, h2⟩ := ih.1 h
          exact ⟨j + 1, h1, by rw [← h2]; congr 1; omega⟩
    · rintro ⟨j, h1, h2⟩
      cases j with
      | zero =>
        simp at h1; subst h1
        rw [if_neg (by rw [show k + 0 = k from rfl] at h2; rw [h2]; decide)]
        exact List.mem_cons_self
      | succ j =>
        have h3 : b ∈ restF d (k + 1) t := ih.2 ⟨j, h1, by rw [← h2]; congr 1; omega⟩
        split
        · exact h3
        · exact List.mem_cons_of_mem _ h3

theorem restF_congr {d d' : Nat} : ∀ (l : List LA) (k : Nat), (∀ j, k ≤ j → d.testBit j = d'.testBit j) → restF d k l = restF d' k l
  | [], k, h => rfl
  | a :: t, k, h => by
    unfold restF
    rw [h k (Nat.le_refl _), restF_congr t (k + 1) fun j hj => h j (by omega)]

theorem restF_perm {d d' : Nat} {a : LA} : ∀ (l : List LA) (k i : Nat), l[i]? = some a → d.testBit (k + i) = false → d'.testBit (k + i) = true → (∀ j, j ≠ k + i → d'.testBit j = d.testBit j) → (restF d k l).Perm (a :: restF d' k l)
  | [], k, i, h, _, _, _ => by simp at h
  | c :: t, k, 0, h, h1, h2, h3 => by
    simp at h; subst h
    unfold restF
    rw [if_neg (by rw [show k + 0 = k from rfl] at h1; rw [h1]; decide), if_pos (by simpa using h2), restF_congr t (k + 1) fun j hj => h3 j (by omega)]
  | c :: t, k, i + 1, h, h1, h2, h3 => by
    have ih := restF_perm (d := d) (d' := d') (a := a) t (k + 1) i (by simpa using h) (by rw [← h1]; congr 1; omega) (by rw [← h2]; congr 1; omega) (fun j hj => h3 j (by omega))
    unfold restF
    rw [h3 k (by omega)]
    split
    · exact ih
    · exact (ih.cons c).trans (.swap _ _ _)

theorem restF_zero : ∀ (l : List LA) (k : Nat), restF 0 k l = l
  | [], _ => rfl
  | a :: t, k => by unfold restF; rw [if_neg (by simp), restF_zero t (k + 1)]

theorem bit_or (d i j : Nat) : (d ||| 1 <<< i).testBit j = (d.testBit j || decide (i = j)) := by
  rw [Nat.testBit_or, Nat.one_shiftLeft, Nat.testBit_two_pow]

/-- what is left behind one act more -/
theorem rest_more {d i : Nat} {a : LA} {l : List LA} (h : l[i]? = some a) (hd : d.testBit i = false) : (restF d 0 l).Perm (a :: restF (d ||| 1 <<< i) 0 l) :=
  restF_perm l 0 i h (by rw [Nat.zero_add]; exact hd) (by rw [Nat.zero_add, bit_or]; simp) (fun j hj => by rw [bit_or]; simp; intro e; omega)

theorem rest_less {d i : Nat} {a : LA} {l : List LA} (h : l[i]? = some a) (hd : d.testBit i = false) : (restF d 0 l).length = (restF (d ||| 1 <<< i) 0 l).length + 1 := by
  rw [(rest_more h hd).length_eq, List.length_cons]

/-- none of those that are left has ended ahead of an act -/
def Rdy (l : List LA) (d : Nat) (a : LA) : Prop := ∀ j b, l[j]? = some b → d.testBit j = false → b.e ≠ -1 → ¬ b.e < a.b

def Fnd (l : List LA) (d : Nat) (o : LO) : Prop := LinR (restF d 0 l) o

theorem fnd_all {l : List LA} {d : Nat} {o : LO} (h : ∀ j b, l[j]? = some b → b.e = -1 ∨ d.testBit j = true) : Fnd l d o :=
  .rest fun a ha => by
    obtain ⟨j, h1, h2⟩ := restF_mem.1 ha
    rcases h j a h1 with h3 | h3
    · exact h3
    · rw [Nat.zero_add, h3] at h2; cases h2

theorem rdy_iff {l : List LA} {d : Nat} {a : LA} : Rdy l d a ↔ ∀ b ∈ restF d 0 l, b.e ≠ -1 → ¬ b.e < a.b := by
  constructor
  · intro h b hb
    obtain ⟨j, h1, h2⟩ := restF_mem.1 hb
    exact h j b h1 (by rw [Nat.zero_add] at h2; exact h2)
  · intro h j b h1 h2
    exact h b (restF_mem.2 ⟨j, h1, by rw [Nat.zero_add]; exact h2⟩)

theorem fnd_step {l : List LA} {d i : Nat} {o : LO} {a : LA} (h : l[i]? = some a) (hd : d.testBit i = false) (hr : Rdy l d a) (ht : a.e = -1 ∨ (o.next a).2 = a.val) (hf : Fnd l (d ||| 1 <<< i) (o.next a).1) : Fnd l d o :=
  .take a _ (rest_more h hd) (rdy_iff.1 hr) ht hf

/-- and there is no other way -/
theorem fnd_cases {l : List LA} {d : Nat} {o : LO} (h : Fnd l d o) : (∀ j b, l[j]? = some b → b.e = -1 ∨ d.testBit j = true) ∨
    ∃ i a, l[i]? = some a ∧ d.testBit i = false ∧ Rdy l d a ∧ (a.e = -1 ∨ (o.next a).2 = a.val) ∧ Fnd l (d ||| 1 <<< i) (o.next a).1 := by
  unfold Fnd at h
  cases h with
  | rest h =>
    refine .inl fun j b hj => ?_
    cases hb : d.testBit j
    · exact .inl (h b (restF_mem.2 ⟨j, hj, by rw [Nat.zero_add]; exact hb⟩))
    · exact .inr rfl
  | take a r h1 h2 h3 h4 =>
    obtain ⟨i, hi, hb⟩ := restF_mem.1 (h1.mem_iff.2 List.mem_cons_self)
    rw [Nat.zero_add] at hb
    exact .inr ⟨i, a, hi, hb, rdy_iff.2 h2, h3, h4.perm (((rest_more hi hb).symm.trans h1).cons_inv).symm⟩

/-- a search from a set: how many calls it makes at most, where so many acts are left -/
def calls9 : Nat → Nat
  | 0 => 1
  | n + 1 => 1 + 9 * calls9 n

theorem calls9_mono : ∀ {m n : Nat}, m ≤ n → calls9 m ≤ calls9 n
  | 0, 0, _ => Nat.le_refl _
  | 0, n + 1, _ => by show 1 ≤ 1 + 9 * calls9 n; omega
  | m + 1, 0, h => by omega
  | m + 1, n + 1, h => by have := calls9_mono (m := m) (n := n) (by omega); show 1 + 9 * calls9 m ≤ 1 + 9 * calls9 n; omega

theorem or_gt {d i : Nat} (h : d.testBit i = false) : d < d ||| 1 <<< i := by
  have h1 : d ≤ d ||| 1 <<< i := Nat.left_le_or
  have h2 : d ≠ d ||| 1 <<< i := fun e => by
    have := bit_or d i i
    rw [← e, h] at this
    simp at this
  omega

/-! ### histories told one behind the other -/
/-- an object goes through acts in order -/
def Runs : LO → List LA → Prop
  | _, [] => True
  | o, a :: t => (a.e = -1 ∨ (o.next a).2 = a.val) ∧ Runs (o.next a).1 t

/-- the first goes first -/
theorem linR_runs : ∀ (l : List LA) (o : LO) (x : List LA), Runs o l → (∀ a ∈ x, a.e = -1) → (l.Pairwise fun a b => b.e ≠ -1 → ¬ b.e < a.b) → (∀ a ∈ l, a.e ≠ -1 → ¬ a.e < a.b) → LinR (l ++ x) o
  | [], o, x, _, hx, _, _ => .rest hx
  | a :: t, o, x, h, hx, hp, hs => by
    obtain ⟨h1, h2⟩ := List.pairwise_cons.1 hp
    refine .take a (t ++ x) (.refl _) ?_ h.1 (linR_runs t _ x h.2 hx h2 fun b hb => hs b (List.mem_cons_of_mem _ hb))
    intro b hb he
    rcases List.mem_append.1 hb with hb | hb
    · rcases List.mem_cons.1 hb with rfl | hb
      · exact hs _ List.mem_cons_self he
      · exact h1 b hb he
    · exact absurd (hx b hb) he

/-- acts none of which is open, each behind the one ahead of it: only their own order will do -/
theorem linR_only : ∀ (l : List LA) (o : LO), LinR l o → (∀ a ∈ l, a.e ≠ -1) → (l.Pairwise fun a b => a.e < b.b) → Runs o l
  | [], _, _, _, _ => trivial
  | a :: t, o, h, he, hp => by
    obtain ⟨h1, h2⟩ := List.pairwise_cons.1 hp
    cases h with
    | rest h => exact absurd (h a List.mem_cons_self) (he a List.mem_cons_self)
    | take c r h3 h4 h5 h6 =>
      have hc : c = a := by
        rcases List.mem_cons.1 (h3.mem_iff.2 List.mem_cons_self) with h | h
        · exact h
        · exact absurd (h1 c h) (h4 a List.mem_cons_self (he a List.mem_cons_self))
      subst hc
      exact ⟨h5, linR_only t _ (h6.perm h3.cons_inv.symm) (fun b hb => he b (List.mem_cons_of_mem _ hb)) h2⟩

/-- all times by so much later -/
def LA.later (s : Int) (a : LA) : LA := ⟨a.b + s, if a.e = -1 then -1 else a.e + s, a.put, a.val, a.by_⟩

theorem next_later (s : Int) (o : LO) (a : LA) : o.next (a.later s) = o.next a := by cases o <;> rfl

theorem linR_later {s : Int} (hs : 0 ≤ s) {l : List LA} {o : LO} (h : LinR l o) : (∀ a ∈ l, -1 ≤ a.e) → LinR (l.map (·.later s)) o := by
  induction h with
  | rest h =>
    intro _
    refine .rest fun a ha => ?_
    obtain ⟨b, hb, rfl⟩ := List.mem_map.1 ha
    show (if b.e = -1 then -1 else b.e + s) = -1
    rw [if_pos (h b hb)]
  | take a r h1 h2 h3 h4 ih =>
    intro hl
    refine .take (a.later s) (r.map (·.later s)) (h1.map _) ?_ ?_ ?_
    · intro b hb he
      obtain ⟨c, hc, rfl⟩ := List.mem_map.1 hb
      have h5 := h2 c hc
      show ¬ (if c.e = -1 then -1 else c.e + s) < a.b + s
      change (if c.e = -1 then -1 else c.e + s) ≠ -1 at he
      by_cases h6 : c.e = -1
      · rw [if_pos h6] at he; exact absurd rfl he
      · rw [if_neg h6]; have := h5 h6; omega
    · rw [next_later]
      rcases h3 with h3 | h3
      · exact .inl (by show (if a.e = -1 then -1 else a.e + s) = -1; rw [if_pos h3])
      · exact .inr h3
    · rw [next_later]
      exact ih fun b hb => hl b (h1.mem_iff.2 (List.mem_cons_of_mem _ hb))

theorem linR_earlier {s : Int} (hs : 0 ≤ s) {l' : List LA} {o : LO} (h : LinR l' o) : ∀ l : List LA, l'.Perm (l.map (·.later s)) → (∀ a ∈ l, -1 ≤ a.e) → LinR l o := by
  induction h with
  | rest h =>
    intro l hq hl
    refine .rest fun a ha => ?_
    have h1 := h (a.later s) (hq.mem_iff.2 (List.mem_map_of_mem ha))
    change (if a.e = -1 then -1 else a.e + s) = -1 at h1
    have := hl a ha
    split at h1 <;> omega
  | take c r h1 h2 h3 h4 ih =>
    intro l hq hl
    obtain ⟨a, ha, rfl⟩ := List.mem_map.1 (hq.mem_iff.1 (h1.mem_iff.2 List.mem_cons_self))
    obtain ⟨l1, l2, rfl⟩ := List.append_of_mem ha
    have hp : (l1 ++ a :: l2).Perm (a :: (l1 ++ l2)) := List.perm_middle
    have hr : r.Perm ((l1 ++ l2).map (·.later s)) := by
      have h5 := (h1.symm.trans hq).trans (hp.map (·.later s))
      exact h5.cons_inv
    refine .take a (l1 ++ l2) hp ?_ ?_ ?_
    · intro b hb he
      have h5 := h2 (b.later s) (hq.mem_iff.2 (List.mem_map_of_mem hb))
      change (if b.e = -1 then -1 else b.e + s) ≠ -1 → ¬ (if b.e = -1 then -1 else b.e + s) < a.b + s at h5
      rw [if_neg he] at h5
      have := hl b hb
      have := h5 (by omega)
      omega
    · rw [next_later] at h3
      rcases h3 with h3 | h3
      · left
        change (if a.e = -1 then -1 else a.e + s) = -1 at h3
        have := hl a ha
        split at h3 <;> omega
      · exact .inr h3
    · rw [next_later] at ih
      exact ih _ hr fun b hb => hl b (by rcases List.mem_append.1 hb with h | h <;> simp [h])
end Go.Proofs.Ytfdgklfkpofkeaa
