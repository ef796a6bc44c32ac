/- A symbolic executor over the model, plain words, and contracts of the program's functions, part 8. Conditions: as each theorem tells. -/
import Derived.Test.YteippbbcihgabaaAyB06
set_option linter.unusedVariables false
set_option linter.unusedSimpArgs false
set_option linter.unusedSectionVars false
namespace Go.Proofs.AYT
open Go Go.Proofs.AY Go.Proofs.Try
def plans102 : Plans := [(1, ⟨.take 0 false (.take 1 false (.alt 2 (.alt 3 (.alt 4 (.alt 5 (.take 6 false (.alt 7 .done .done)) .done) (.alt 5 (.alt 4 (.take 6 false (.alt 7 .done .done)) .done) .done)) (.alt 4 (.alt 3 (.alt 5 (.take 6 false (.alt 7 .done .done)) .done) (.alt 5 (.alt 3 (.take 6 false (.alt 7 .done .done)) .done) .done)) (.alt 5 (.alt 3 (.alt 4 (.take 6 false (.alt 7 .done .done)) .done) (.alt 4 (.alt 3 (.take 6 false (.alt 7 .done .done)) .done) .done)) .done))) (.alt 3 (.alt 2 (.alt 4 (.alt 5 (.take 6 false (.alt 7 .done .done)) .done) (.alt 5 (.alt 4 (.take 6 false (.alt 7 .done .done)) .done) .done)) (.alt 4 (.alt 2 (.alt 5 (.take 6 false (.alt 7 .done .done)) .done) (.alt 5 (.alt 2 (.take 6 false (.alt 7 .done .done)) .done) .done)) (.alt 5 (.alt 2 (.alt 4 (.take 6 false (.alt 7 .done .done)) .done) (.alt 4 (.alt 2 (.take 6 false (.alt 7 .done .done)) .done) .done)) .done))) (.alt 4 (.alt 2 (.alt 3 (.alt 5 (.take 6 false (.alt 7 .done .done)) .done) (.alt 5 (.alt 3 (.take 6 false (.alt 7 .done .done)) .done) .done)) (.alt 3 (.alt 2 (.alt 5 (.take 6 false (.alt 7 .done .done)) .done) (.alt 5 (.alt 2 (.take 6 false (.alt 7 .done .done)) .done) .done)) (.alt 5 (.alt 2 (.alt 3 (.take 6 false (.alt 7 .done .done)) .done) (.alt 3 (.alt 2 (.take 6 false (.alt 7 .done .done)) .done) .done)) .done))) (.alt 5 (.alt 2 (.alt 3 (.alt 4 (.take 6 false (.alt 7 .done .done)) .done) (.alt 4 (.alt 3 (.take 6 false (.alt 7 .done .done)) .done) .done)) (.alt 3 (.alt 2 (.alt 4 (.take 6 false (.alt 7 .done .done)) .done) (.alt 4 (.alt 2 (.take 6 false (.alt 7 .done .done)) .done) .done)) (.alt 4 (.alt 2 (.alt 3 (.take 6 false (.alt 7 .done .done)) .done) (.alt 3 (.alt 2 (.take 6 false (.alt 7 .done .done)) .done) .done)) .done))) .done))))), [7], []⟩)]
theorem plans102_ok : plansOk plans102 (bodyOf f102) = true := by kernel_rfl
set_option maxHeartbeats 8000000 in
theorem l11Task_ok (body up : Int) : CallOK prog 102 [int body, int up] [] (fun r os => os = [] ∧ r = .a (eTask (newTask body up))) := by
  refine fn_ [] tab_ok hmo func102 rfl rfl plans102_ok rfl ?_
  repeat' ((conv => whnf); first | (refine And.intro ?_ ?_) | (intro _))
  all_goals first
  | (apply ret_ [1, 2, 3, 4]
     refine And.intro ?_ ?_
     · first | exact fun j hj => absurd hj (Nat.not_lt_zero _) | exact fun _ _ => rfl
     refine And.intro ?_ ?_
     · first | exact fun j hj => absurd hj (Nat.not_lt_zero _) | exact fun _ _ => rfl
     refine And.intro ?_ ?_
     · first | exact fun j hj => absurd hj (Nat.not_lt_zero _) | exact fun _ _ => rfl
     refine And.intro ?_ ?_
     · first | exact fun j hj => absurd hj (Nat.not_lt_zero _) | exact fun _ _ => rfl
     apply retAt0 (r := .a (eTask (newTask body up)))
     · exact ⟨rfl, rfl, rfl, ⟨rfl, rfl, (fun i hi => by (rcases i with _ | _ | _ | i <;> first | rfl | omega | (exfalso; simp only [List.length] at hi; omega)))⟩, rfl, rfl, rfl, rfl, ⟨rfl, rfl, (fun i hi => by (rcases i with _ | _ | _ | i <;> first | rfl | omega | (exfalso; simp only [List.length] at hi; omega)))⟩, ⟨rfl, rfl, fun j hj => absurd hj (Nat.not_lt_zero _)⟩, ⟨rfl, rfl, fun j hj => absurd hj (Nat.not_lt_zero _)⟩, rfl, rfl, trivial⟩
     · exact ⟨rfl, rfl⟩)
theorem callx_l11Task {al0 : Lim} {s0 : St} {as0 : List Operand} {d0 : Option Tmp} {K0 : St → Prop} {body up : Int} (ρ : List Sel) (cok_ : CallOK prog 102 [int body, int up] [] (fun r os => os = [] ∧ r = .a (eTask (newTask body up)))) (cn_ : nodupB (keysOf ρ) = true) (ca_ : tvsLe ρ s0.loc.length (as0.map (ev s0)) [int body, int up]) (co_ : locLe ρ s0.loc.length s0.loc s0.fz ρ []) (cl_ : limP al0 s0.loc ρ True) (ck_ : placesK s0.loc ρ ([].map (AObj.up ρ s0.loc.length)) fun loc' => s0.afterK loc' d0 ((.a (eTask (newTask body up)) : TV).up ρ s0.loc.length) K0) : CallAt prog al0 s0 102 as0 d0 K0 :=
  callB ρ cok_ cn_ ca_ co_ cl_ (by rintro r os ⟨rfl, rfl⟩; exact ck_ )
theorem call_l11Task {al0 : Lim} {s0 : St} {as0 : List Operand} {d0 : Option Tmp} {K0 : St → Prop} {body up : Int} (ρ : List Sel) (cn_ : nodupB (keysOf ρ) = true) (ca_ : tvsLe ρ s0.loc.length (as0.map (ev s0)) [int body, int up]) (co_ : locLe ρ s0.loc.length s0.loc s0.fz ρ []) (cl_ : limP al0 s0.loc ρ True) (ck_ : placesK s0.loc ρ ([].map (AObj.up ρ s0.loc.length)) fun loc' => s0.afterK loc' d0 ((.a (eTask (newTask body up)) : TV).up ρ s0.loc.length) K0) : CallAt prog al0 s0 102 as0 d0 K0 :=
  callx_l11Task ρ (l11Task_ok body up) cn_ ca_ co_ cl_ ck_
end Go.Proofs.AYT
