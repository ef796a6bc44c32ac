/- A symbolic executor over the model, plain words, and contracts of the program's functions, part 21. Conditions: as each theorem tells. -/
import Derived.Test.YteippbbcihgabaaAyB04
import Derived.Test.YteippbbcihgabaaBAyQh
import Derived.Test.YteippbbcihgabaaBAyQe
set_option linter.unusedVariables false
set_option linter.unusedSimpArgs false
set_option linter.unusedSectionVars false
/- AY, part Qi: plain words: drawn logs, for replays. -/
namespace Go.Proofs.AY
open Go
theorem goodF.small {x : Entry} (h : goodF x) : smallE x := by
  have h1 := listOk_len h.2.2.2.2.2.2.2.2.1 (by omega)
  have h2 := listOk_len h.2.2.2.2.2.2.2.2.2 (by omega)
  exact ⟨by omega, by omega⟩
theorem logP.small {P : DProg} {L : List Entry} (h : logP P L) : ∀ x ∈ L, smallE x := fun x hx => (h.good.2 x hx).small
theorem logP.cells {P : DProg} {L : List Entry} (h : logP P L) : 1 ≤ P.cells.length ∧ P.cells.length ≤ 3 := by
  obtain ⟨S, R, b, h1, _⟩ := h
  have := (drawn_run h1).i.small
  exact ⟨h1.1.2, this.1⟩
/-- Cells and a log, as drawn. -/
structure cellsL (cs : List Int) (L : List Entry) : Prop where
  hc : 1 ≤ cs.length ∧ cs.length ≤ 3
  hl : L.length ≤ 2000000
  hs : ∀ x ∈ L, goodF x
theorem logP.cl {P : DProg} {L : List Entry} (h : logP P L) : cellsL P.cells L := ⟨h.cells, h.good.1, h.good.2⟩
theorem cellsL.order {cs : List Int} {L : List Entry} (h : cellsL cs L) : cellsL cs (orderF L) :=
  ⟨h.hc, by rw [orderF_len]; exact h.hl, fun x hx => h.hs x (orderF_mem hx)⟩
theorem replayF_nil (cs : List Int) : replayF cs [] = some cs := rfl
theorem replay_take {cs : List Int} {L : List Entry} {k : Nat} : replayF cs L = (L.drop k).foldl replayS (replayF cs (L.take k)) := by
  rw [← replayF_app, List.take_append_drop]
end Go.Proofs.AY
