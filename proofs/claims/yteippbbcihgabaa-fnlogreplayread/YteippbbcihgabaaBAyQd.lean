/- A symbolic executor over the model, plain words, and contracts of the program's functions, part 18. Conditions: as each theorem tells. -/
import Derived.Test.YteippbbcihgabaaAyB04
set_option linter.unusedVariables false
set_option linter.unusedSimpArgs false
set_option linter.unusedSectionVars false
/- AY, part Qd: plain words: which change stands ahead; which logs are real. -/
namespace Go.Proofs.AY
open Go
abbrev aheadP (a b : Entry) : Prop := a.when < b.when ∨ (a.when = b.when ∧ 0 < (a.puts.length : Int) ∧ (b.puts.length : Int) = 0)
def realAt (L : List Entry) (i k : Nat) : Bool := !(decide ((k : Int) < (L.getD i default).frm) && decide (aheadP (L.getD i default) (L.getD k default)))
def realI (L : List Entry) (i : Nat) : Bool := allTo (realAt L i) i
def realB (L : List Entry) : Bool := allTo (realI L) L.length
theorem realAt_far {L : List Entry} {i k : Nat} (h : ¬ (k : Int) < (L.getD i default).frm) : realAt L i k = true := by
  unfold realAt; rw [decide_eq_false h]; rfl
theorem realAt_yes {L : List Entry} {i k : Nat} (h1 : (k : Int) < (L.getD i default).frm) (h2 : aheadP (L.getD i default) (L.getD k default)) : realAt L i k = false := by
  unfold realAt; rw [decide_eq_true h1, decide_eq_true h2]; rfl
theorem realAt_no {L : List Entry} {i k : Nat} (h2 : ¬ aheadP (L.getD i default) (L.getD k default)) : realAt L i k = true := by
  unfold realAt; rw [decide_eq_false h2, Bool.and_false]; rfl
theorem allTo_succ {p : Nat → Bool} {n : Nat} : allTo p (n + 1) = (allTo p n && p n) := by
  unfold allTo
  rw [List.range_succ, List.all_append]
  simp
theorem upTo_far {L : List Entry} {i j : Nat} (h : upTo (realAt L i) j) (hj : ¬ (j : Int) < (L.getD i default).frm) : upTo (realAt L i) i := fun k hk => by
  by_cases hkj : k < j
  · exact h k hkj
  · exact realAt_far (by omega)
theorem allTo_far {L : List Entry} {i j : Nat} (hji : j ≤ i) (hj : ¬ (j : Int) < (L.getD i default).frm) : allTo (realAt L i) j = realI L i := by
  unfold realI
  cases h : allTo (realAt L i) j with
  | true => exact (allTo_of (upTo_far (fun k hk => allTo_at h hk) hj)).symm
  | false =>
    cases h2 : allTo (realAt L i) i with
    | false => rfl
    | true =>
      have : allTo (realAt L i) j = true := allTo_of fun k hk => allTo_at h2 (by omega)
      rw [this] at h; cases h
end Go.Proofs.AY
