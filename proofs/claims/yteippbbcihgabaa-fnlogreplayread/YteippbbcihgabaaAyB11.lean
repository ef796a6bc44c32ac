/- A symbolic executor over the model, plain words, and contracts of the program's functions, part 11. Conditions: as each theorem tells. -/
import Derived.Test.YteippbbcihgabaaAyB08
import Derived.Test.YteippbbcihgabaaAyB10
set_option linter.unusedVariables false
set_option linter.unusedSimpArgs false
set_option linter.unusedSectionVars false
namespace Go.Proofs.AYT
open Go Go.Proofs.AY Go.Proofs.Try
abbrev wZ : AObj := .row 3 1 3 (fun _ => eI 0)
set_option maxHeartbeats 8000000 in
theorem l11TaskO_ok (body up : Int) : CallOK prog 102 [int body, int up] [] (fun r os => os = [wZ] ∧ r = .a (eTaskO (newTask body up) 0 0)) := by
  refine fn_ [] tab_ok hmo func102 rfl rfl plans102_ok rfl ?_
  repeat' ((conv => whnf); first | (refine And.intro ?_ ?_) | (intro _))
  all_goals first
  | (apply ret_ [2, 3, 4]
     (refine And.intro ?_ ?_; (first | exact fun j hj => absurd hj (Nat.not_lt_zero _) | exact fun _ _ => rfl); refine And.intro ?_ ?_; (first | exact fun j hj => absurd hj (Nat.not_lt_zero _) | exact fun _ _ => rfl); refine And.intro ?_ ?_; (first | exact fun j hj => absurd hj (Nat.not_lt_zero _) | exact fun _ _ => rfl))
     apply retAt_ [.all 1] (.a (eTaskO (newTask body up) 0 0)) [wZ] rfl rfl
     · exact ⟨rfl, rfl, rfl, rfl, rfl, rfl, rfl, rfl, ⟨rfl, rfl, (fun i hi => by (rcases i with _ | _ | _ | i <;> first | rfl | omega | (exfalso; simp only [List.length] at hi; omega)))⟩, ⟨rfl, rfl, fun j hj => absurd hj (Nat.not_lt_zero _)⟩, ⟨rfl, rfl, fun j hj => absurd hj (Nat.not_lt_zero _)⟩, rfl, rfl, trivial⟩
     · exact ⟨⟨trivial, rfl, rfl, rfl, fun _ _ => ⟨rfl, trivial⟩⟩, trivial⟩
     · exact ⟨rfl, rfl⟩)
  | (apply ret_ [1, 3, 4]
     (refine And.intro ?_ ?_; (first | exact fun j hj => absurd hj (Nat.not_lt_zero _) | exact fun _ _ => rfl); refine And.intro ?_ ?_; (first | exact fun j hj => absurd hj (Nat.not_lt_zero _) | exact fun _ _ => rfl); refine And.intro ?_ ?_; (first | exact fun j hj => absurd hj (Nat.not_lt_zero _) | exact fun _ _ => rfl))
     apply retAt_ [.all 2] (.a (eTaskO (newTask body up) 0 0)) [wZ] rfl rfl
     · exact ⟨rfl, rfl, rfl, rfl, rfl, rfl, rfl, rfl, ⟨rfl, rfl, (fun i hi => by (rcases i with _ | _ | _ | i <;> first | rfl | omega | (exfalso; simp only [List.length] at hi; omega)))⟩, ⟨rfl, rfl, fun j hj => absurd hj (Nat.not_lt_zero _)⟩, ⟨rfl, rfl, fun j hj => absurd hj (Nat.not_lt_zero _)⟩, rfl, rfl, trivial⟩
     · exact ⟨⟨trivial, rfl, rfl, rfl, fun _ _ => ⟨rfl, trivial⟩⟩, trivial⟩
     · exact ⟨rfl, rfl⟩)
  | (apply ret_ [1, 2, 4]
     (refine And.intro ?_ ?_; (first | exact fun j hj => absurd hj (Nat.not_lt_zero _) | exact fun _ _ => rfl); refine And.intro ?_ ?_; (first | exact fun j hj => absurd hj (Nat.not_lt_zero _) | exact fun _ _ => rfl); refine And.intro ?_ ?_; (first | exact fun j hj => absurd hj (Nat.not_lt_zero _) | exact fun _ _ => rfl))
     apply retAt_ [.all 3] (.a (eTaskO (newTask body up) 0 0)) [wZ] rfl rfl
     · exact ⟨rfl, rfl, rfl, rfl, rfl, rfl, rfl, rfl, ⟨rfl, rfl, (fun i hi => by (rcases i with _ | _ | _ | i <;> first | rfl | omega | (exfalso; simp only [List.length] at hi; omega)))⟩, ⟨rfl, rfl, fun j hj => absurd hj (Nat.not_lt_zero _)⟩, ⟨rfl, rfl, fun j hj => absurd hj (Nat.not_lt_zero _)⟩, rfl, rfl, trivial⟩
     · exact ⟨⟨trivial, rfl, rfl, rfl, fun _ _ => ⟨rfl, trivial⟩⟩, trivial⟩
     · exact ⟨rfl, rfl⟩)
  | (apply ret_ [1, 2, 3]
     (refine And.intro ?_ ?_; (first | exact fun j hj => absurd hj (Nat.not_lt_zero _) | exact fun _ _ => rfl); refine And.intro ?_ ?_; (first | exact fun j hj => absurd hj (Nat.not_lt_zero _) | exact fun _ _ => rfl); refine And.intro ?_ ?_; (first | exact fun j hj => absurd hj (Nat.not_lt_zero _) | exact fun _ _ => rfl))
     apply retAt_ [.all 4] (.a (eTaskO (newTask body up) 0 0)) [wZ] rfl rfl
     · exact ⟨rfl, rfl, rfl, rfl, rfl, rfl, rfl, rfl, ⟨rfl, rfl, (fun i hi => by (rcases i with _ | _ | _ | i <;> first | rfl | omega | (exfalso; simp only [List.length] at hi; omega)))⟩, ⟨rfl, rfl, fun j hj => absurd hj (Nat.not_lt_zero _)⟩, ⟨rfl, rfl, fun j hj => absurd hj (Nat.not_lt_zero _)⟩, rfl, rfl, trivial⟩
     · exact ⟨⟨trivial, rfl, rfl, rfl, fun _ _ => ⟨rfl, trivial⟩⟩, trivial⟩
     · exact ⟨rfl, rfl⟩)
theorem callx_l11TaskO {al0 : Lim} {s0 : St} {as0 : List Operand} {d0 : Option Tmp} {K0 : St → Prop} {body up : Int} (ρ : List Sel) (cok_ : CallOK prog 102 [int body, int up] [] (fun r os => os = [wZ] ∧ r = .a (eTaskO (newTask body up) 0 0))) (cn_ : nodupB (keysOf ρ) = true) (ca_ : tvsLe ρ s0.loc.length (as0.map (ev s0)) [int body, int up]) (co_ : locLe ρ s0.loc.length s0.loc s0.fz ρ []) (cl_ : limP al0 s0.loc ρ True) (ck_ : placesK s0.loc ρ ([wZ].map (AObj.up ρ s0.loc.length)) fun loc' => s0.afterK loc' d0 ((.a (eTaskO (newTask body up) 0 0) : TV).up ρ s0.loc.length) K0) : CallAt prog al0 s0 102 as0 d0 K0 :=
  callB ρ cok_ cn_ ca_ co_ cl_ (by rintro r os ⟨rfl, rfl⟩; exact ck_ )
theorem call_l11TaskO {al0 : Lim} {s0 : St} {as0 : List Operand} {d0 : Option Tmp} {K0 : St → Prop} {body up : Int} (ρ : List Sel) (cn_ : nodupB (keysOf ρ) = true) (ca_ : tvsLe ρ s0.loc.length (as0.map (ev s0)) [int body, int up]) (co_ : locLe ρ s0.loc.length s0.loc s0.fz ρ []) (cl_ : limP al0 s0.loc ρ True) (ck_ : placesK s0.loc ρ ([wZ].map (AObj.up ρ s0.loc.length)) fun loc' => s0.afterK loc' d0 ((.a (eTaskO (newTask body up) 0 0) : TV).up ρ s0.loc.length) K0) : CallAt prog al0 s0 102 as0 d0 K0 :=
  callx_l11TaskO ρ (l11TaskO_ok body up) cn_ ca_ co_ cl_ ck_
end Go.Proofs.AYT
