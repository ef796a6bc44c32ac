/- A symbolic executor over the model, plain words, and contracts of the program's functions, part 20. Conditions: as each theorem tells. -/
import Derived.Test.YteippbbcihgabaaBAyQd
set_option linter.unusedVariables false
set_option linter.unusedSimpArgs false
set_option linter.unusedSectionVars false
/- AY, part Qe: plain words: parts of a real log. -/
namespace Go.Proofs.AY
open Go
theorem realB_take {L : List Entry} (h : realB L = true) (k : Nat) : realB (L.take k) = true := by
  unfold realB
  refine allTo_of fun i hi => ?_
  have hi' : i < L.length := by rw [List.length_take] at hi; omega
  have h1 := allTo_at h hi'
  unfold realI at *
  refine allTo_of fun j hj => ?_
  have h2 := allTo_at h1 hj
  unfold realAt at *
  rw [getD_take hi, getD_take (by omega)]
  exact h2
theorem take_enc {α : Type} [Inhabited α] (enc : α → List CV) (l : List α) (k : Nat) : ∀ i, i < (l.take k).length → enc (l.getD (0 + i) default) = enc ((l.take k).getD i default) := fun i hi => by
  rw [getD_take hi, Nat.zero_add]
theorem drop_enc {α : Type} [Inhabited α] (enc : α → List CV) (l : List α) (k : Nat) : ∀ i, i < (l.drop k).length → enc (l.getD (k + i) default) = enc ((l.drop k).getD i default) := fun i hi => by
  rw [getD_drop]
end Go.Proofs.AY
