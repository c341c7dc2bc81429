/-
  Package rwl, one behind the other: plain laws that the kernel goes through.
-/
import Derived.Test.YtnoinojhocicjaaDoorScan
import Derived.Test.YtnoinojhocicjaaDoorRwlLaw
namespace Go.Proofs.YtnoinojhocicjaaDoor
open Go.RowKit
set_option linter.unusedVariables false

def rsTh (v j : Nat) : List VCall := if j = v then [⟨0, []⟩, ⟨1, []⟩, ⟨2, []⟩] else [⟨0, []⟩, ⟨1, []⟩, ⟨0, []⟩]
def rsM (v : Nat) : Mach := ⟨[0], [readInCode, readOutCode, writeInCode, writeOutCode, lops 1 1], (List.range 4).map (rsTh v)⟩
def rsT (v d : Nat) : Nat := if d = 8 then v else d % 4
def rsC (d : Nat) : Nat := if d < 4 then 7 else if d < 8 then 5 else 6
def rsW (d : Nat) : Nat := if d < 4 then 1 else if d < 8 then 2 else 3
/-- pairs of steps of two others -/
def rsP (v : Nat) : Nat → List Nat
  | 0 => []
  | i + 1 => rsP v i ++ [(v + 1) % 4, (v + 2) % 4]
theorem rsP_len (v : Nat) : ∀ i, (rsP v i).length = 2 * i
  | 0 => rfl
  | i + 1 => by rw [rsP, List.length_append, rsP_len v i]; rfl
theorem rsP_take (v : Nat) : ∀ n i, i ≤ n → (rsP v n).take (2 * i) = rsP v i
  | 0, i, h => by obtain rfl : i = 0 := by omega
                  rfl
  | n + 1, i, h => by
    by_cases e : i = n + 1
    · subst e; rw [← rsP_len v (n + 1), List.take_length]
    · rw [rsP, List.take_append_of_le_length (by rw [rsP_len]; omega)]
      exact rsP_take v n i (by omega)
/-- nobody but v ends its third call -/
def rsOk (v : Nat) (ds : List Dg) : Bool := ds.all fun d => !(d.t != v && d.c == 2 && d.e.isSome)
set_option maxRecDepth 1000000 in
theorem rs_a0 : scan (rsM 0) (partP (rsT 0) rsC rsW 9) 0 (partsS (rsT 0) rsC 9) (pinit (rsM 0)) = true := by decide +kernel
set_option maxRecDepth 1000000 in
theorem rs_a1 : scan (rsM 1) (partP (rsT 1) rsC rsW 9) 0 (partsS (rsT 1) rsC 9) (pinit (rsM 1)) = true := by decide +kernel
set_option maxRecDepth 1000000 in
theorem rs_a2 : scan (rsM 2) (partP (rsT 2) rsC rsW 9) 0 (partsS (rsT 2) rsC 9) (pinit (rsM 2)) = true := by decide +kernel
set_option maxRecDepth 1000000 in
theorem rs_a3 : scan (rsM 3) (partP (rsT 3) rsC rsW 9) 0 (partsS (rsT 3) rsC 9) (pinit (rsM 3)) = true := by decide +kernel
def rsAll (v : Nat) : Bool := (fun s : PS => noErrB s && rsOk v (doings s.evs)) (play (rsM v) (partsS (rsT v) rsC 9 ++ rsP v 400))
set_option maxRecDepth 1000000 in
theorem rs_b0 : rsAll 0 = true := by decide +kernel
set_option maxRecDepth 1000000 in
theorem rs_b1 : rsAll 1 = true := by decide +kernel
set_option maxRecDepth 1000000 in
theorem rs_b2 : rsAll 2 = true := by decide +kernel
set_option maxRecDepth 1000000 in
theorem rs_b3 : rsAll 3 = true := by decide +kernel
theorem rs_part {v d i : Nat} (hv : v < 4) (hd : d < 9) (hi : i ≤ rsC d) :
    NoErr (play (rsM v) (partsS (rsT v) rsC d ++ List.replicate i (rsT v d))).evs ∧ (endedN (doings (play (rsM v) (partsS (rsT v) rsC d ++ List.replicate i (rsT v d))).evs) (rsT v d) < rsW d ↔ i < rsC d) := by
  rcases (show v = 0 ∨ v = 1 ∨ v = 2 ∨ v = 3 by omega) with rfl | rfl | rfl | rfl
  · exact parts_play rs_a0 hd hi
  · exact parts_play rs_a1 hd hi
  · exact parts_play rs_a2 hd hi
  · exact parts_play rs_a3 hd hi
theorem dpre_back {T : Nat} {ds ds' : List Dg} (h : DPre T ds ds') {k : Nat} {d : Dg} (hk : ds[k]? = some d) : ∃ d', ds'[k]? = some d' ∧ (d' = d ∨ d.e = none) := by
  obtain ⟨d', hd', _⟩ := h.back hk
  refine ⟨d', hd', ?_⟩
  rcases h.2 k d' hd' with ⟨a, _⟩ | ⟨d0, a, _, _, _, f⟩
  · have := (List.getElem?_eq_some_iff.1 hk).1; omega
  · rw [hk] at a; injection a with a; subst a
    rcases f with f | ⟨f, _⟩
    · exact .inl f
    · exact .inr f
theorem rs_end {v i : Nat} (hv : v < 4) (hi : i ≤ 400) : NoErr (play (rsM v) (partsS (rsT v) rsC 9 ++ rsP v i)).evs ∧ ∀ d ∈ doings (play (rsM v) (partsS (rsT v) rsC 9 ++ rsP v i)).evs, d.t ≠ v → d.c = 2 → d.e = none := by
  have hall : rsAll v = true := by
    rcases (show v = 0 ∨ v = 1 ∨ v = 2 ∨ v = 3 by omega) with rfl | rfl | rfl | rfl
    · exact rs_b0
    · exact rs_b1
    · exact rs_b2
    · exact rs_b3
  unfold rsAll at hall
  simp only [Bool.and_eq_true] at hall
  have hlen : (partsS (rsT v) rsC 9 ++ rsP v i).length ≤ (partsS (rsT v) rsC 9 ++ rsP v 400).length := by rw [List.length_append, List.length_append, rsP_len, rsP_len]; omega
  have htake : (partsS (rsT v) rsC 9 ++ rsP v 400).take (partsS (rsT v) rsC 9 ++ rsP v i).length = partsS (rsT v) rsC 9 ++ rsP v i := by
    rw [List.length_append, List.take_append, List.take_of_length_le (by omega), Nat.add_sub_cancel_left, rsP_len, rsP_take v 400 i hi]
  obtain ⟨u, hu, _⟩ := play_parts (rsM v) _ _ hlen
  have hP := play_pre (rsM v) _ _ hlen
  rw [htake] at hu hP
  refine ⟨fun e he => noErr_of hall.1 e (by rw [hu]; exact List.mem_append.2 (.inl he)), fun d hd ht hc => ?_⟩
  obtain ⟨k, hk⟩ := List.getElem?_of_mem hd
  obtain ⟨d', hd', f⟩ := dpre_back hP hk
  have hok := List.all_eq_true.1 hall.2 d' (List.mem_of_getElem? hd')
  rcases f with f | f
  · subst f
    cases he : d'.e with
    | none => rfl
    | some e => simp [ht, hc, he] at hok
  · exact f
end Go.Proofs.YtnoinojhocicjaaDoor
