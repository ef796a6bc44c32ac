/- A symbolic executor over the model, plain words, and contracts of the program's functions, part 14. Conditions: as each theorem tells. -/
import Derived.Test.YteippbbcihgabaaAyB12
set_option linter.unusedVariables false
set_option linter.unusedSimpArgs false
set_option linter.unusedSectionVars false
namespace Go.Proofs.AYT
open Go Go.Proofs.AY Go.Proofs.Try
theorem readyO_ok (p : DProg) (s : DSys) (nc nt nl t : Nat) (hn : s.tasks.length = nt) (ht : t < nt) (hn1 : nt ≤ 1000000000) : CallOK prog 94 [ptr 0, int t] [wB p s nc nt nl 1 2 3, wC s nc, wT s nt 4, wL s nl, wR s nt] (fun r os => os = [wB p s nc nt nl 1 2 3, wC s nc, wT s nt 4, wL s nl, wR s nt] ∧ r = bl (readyB s t)) := by
  have b0 := kidsN_bound s.tasks t 0
  have b1 := kidsN_bound s.tasks t 1
  have b3 := kidsN_bound s.tasks t 3
  have hR : readyB s t = (if 200 ≤ s.clock then false else if (s.tasks.getD t default).way = 0 then decide ((s.tasks.getD t default).stage ≠ 0 ∨ (s.tasks.getD t default).when ≤ s.clock) else if (s.tasks.getD t default).way = 1 then decide (0 < kidsN s.tasks t 3 ∨ kidsN s.tasks t 0 + kidsN s.tasks t 1 = 0) else false) := rfl
  refine fn_ [] tab_ok hmo func94 rfl rfl plans94_ok rfl ?_
  repeat' ((conv => whnf); first | (refine And.intro ?_ ?_) | (intro _) | (apply call0_ (g := 98); refine call_kidsO [.all 0, .all 1, .all 2, .all 3, .all 4] hn rfl ⟨rfl, rfl, rfl, trivial⟩ ⟨⟨trivial, rfl, ⟨rfl, rfl, fun _ _ => rfl⟩, ⟨rfl, rfl, fun _ _ => rfl⟩, rfl, rfl, rfl, rfl, trivial⟩, ⟨trivial, rfl, rfl, rfl, fun _ _ => ⟨rfl, rfl, rfl, trivial⟩⟩, ⟨trivial, rfl, rfl, rfl, fun _ _ => ⟨rfl, rfl, rfl, rfl, rfl, rfl, rfl, rfl, ⟨rfl, rfl, fun _ _ => rfl⟩, ⟨rfl, rfl, fun _ _ => rfl⟩, ⟨rfl, rfl, fun _ _ => rfl⟩, rfl, rfl, trivial⟩⟩, ⟨trivial, rfl, rfl, rfl, fun _ _ => ⟨rfl, rfl, rfl, ⟨rfl, rfl, fun _ _ => rfl⟩, ⟨rfl, rfl, fun _ _ => rfl⟩, rfl, trivial⟩⟩, ⟨trivial, fun _ hi => ⟨hi, rfl, rfl, rfl, fun _ _ => ⟨rfl, trivial⟩⟩⟩, trivial⟩ (by first | exact trivial | exact ⟨⟨rfl, Nat.le_refl _, trivial⟩, trivial⟩ | exact ⟨⟨rfl, trivial, ⟨rfl, trivial, ⟨rfl, trivial, ⟨rfl, trivial, ⟨rfl, trivial, trivial⟩⟩⟩⟩⟩, trivial⟩) ?_))
  all_goals (try simp only [Int.toNat_natCast] at *)
  all_goals first | omega | skip
  all_goals
    apply ret_ []
    apply retAt_ [.all 0, .all 1, .all 2, .all 3, .all 4] (bl _) [wB p s nc nt nl 1 2 3, wC s nc, wT s nt 4, wL s nl, wR s nt] rfl rfl
    · exact rfl
    · exact ⟨⟨trivial, rfl, ⟨rfl, rfl, fun _ _ => rfl⟩, ⟨rfl, rfl, fun _ _ => rfl⟩, rfl, rfl, rfl, rfl, trivial⟩, ⟨trivial, rfl, rfl, rfl, fun _ _ => ⟨rfl, rfl, rfl, trivial⟩⟩, ⟨trivial, rfl, rfl, rfl, fun _ _ => ⟨rfl, rfl, rfl, rfl, rfl, rfl, rfl, rfl, ⟨rfl, rfl, fun _ _ => rfl⟩, ⟨rfl, rfl, fun _ _ => rfl⟩, ⟨rfl, rfl, fun _ _ => rfl⟩, rfl, rfl, trivial⟩⟩, ⟨trivial, rfl, rfl, rfl, fun _ _ => ⟨rfl, rfl, rfl, ⟨rfl, rfl, fun _ _ => rfl⟩, ⟨rfl, rfl, fun _ _ => rfl⟩, rfl, trivial⟩⟩, ⟨trivial, fun _ hi => ⟨hi, rfl, rfl, rfl, fun _ _ => ⟨rfl, trivial⟩⟩⟩, trivial⟩
    · refine ⟨rfl, congrArg bl ?_⟩
      rw [hR]
      first
      | (rw [if_pos (by assumption)]; done)
      | (rw [if_neg (by omega), if_pos (by assumption), decide_eq_true (by omega)]; done)
      | (rw [if_neg (by omega), if_pos (by assumption), decide_eq_false (by omega)]; done)
      | (rw [if_neg (by omega), if_neg (by assumption), if_pos (by assumption), decide_eq_true (by omega)]; done)
      | (rw [if_neg (by omega), if_neg (by assumption), if_pos (by assumption), decide_eq_false (by omega)]; done)
      | (rw [if_neg (by omega), if_neg (by assumption), if_neg (by assumption)]; done)
theorem callx_readyO {al0 : Lim} {s0 : St} {as0 : List Operand} {d0 : Option Tmp} {K0 : St → Prop} {p : DProg} {s : DSys} {nc nt nl t : Nat} (ρ : List Sel) (cok_ : CallOK prog 94 [ptr 0, int t] [wB p s nc nt nl 1 2 3, wC s nc, wT s nt 4, wL s nl, wR s nt] (fun r os => os = [wB p s nc nt nl 1 2 3, wC s nc, wT s nt 4, wL s nl, wR s nt] ∧ r = bl (readyB s t))) (cn_ : nodupB (keysOf ρ) = true) (ca_ : tvsLe ρ s0.loc.length (as0.map (ev s0)) [ptr 0, int t]) (co_ : locLe ρ s0.loc.length s0.loc s0.fz ρ [wB p s nc nt nl 1 2 3, wC s nc, wT s nt 4, wL s nl, wR s nt]) (cl_ : limP al0 s0.loc ρ True) (cT_ : (readyB s t) = true → placesK s0.loc ρ ([wB p s nc nt nl 1 2 3, wC s nc, wT s nt 4, wL s nl, wR s nt].map (AObj.up ρ s0.loc.length)) fun loc' => s0.afterK loc' d0 ((bl true : TV).up ρ s0.loc.length) K0) (cF_ : (readyB s t) = false → placesK s0.loc ρ ([wB p s nc nt nl 1 2 3, wC s nc, wT s nt 4, wL s nl, wR s nt].map (AObj.up ρ s0.loc.length)) fun loc' => s0.afterK loc' d0 ((bl false : TV).up ρ s0.loc.length) K0) : CallAt prog al0 s0 94 as0 d0 K0 :=
  callB ρ cok_ cn_ ca_ co_ cl_ (by rintro r os ⟨rfl, rfl⟩; cases hb : (readyB s t) with | true => exact cT_  hb  | false => exact cF_  hb )
theorem call_readyO {al0 : Lim} {s0 : St} {as0 : List Operand} {d0 : Option Tmp} {K0 : St → Prop} {p : DProg} {s : DSys} {nc nt nl t : Nat} (ρ : List Sel) (hn : s.tasks.length = nt) (ht : t < nt) (hn1 : nt ≤ 1000000000) (cn_ : nodupB (keysOf ρ) = true) (ca_ : tvsLe ρ s0.loc.length (as0.map (ev s0)) [ptr 0, int t]) (co_ : locLe ρ s0.loc.length s0.loc s0.fz ρ [wB p s nc nt nl 1 2 3, wC s nc, wT s nt 4, wL s nl, wR s nt]) (cl_ : limP al0 s0.loc ρ True) (cT_ : (readyB s t) = true → placesK s0.loc ρ ([wB p s nc nt nl 1 2 3, wC s nc, wT s nt 4, wL s nl, wR s nt].map (AObj.up ρ s0.loc.length)) fun loc' => s0.afterK loc' d0 ((bl true : TV).up ρ s0.loc.length) K0) (cF_ : (readyB s t) = false → placesK s0.loc ρ ([wB p s nc nt nl 1 2 3, wC s nc, wT s nt 4, wL s nl, wR s nt].map (AObj.up ρ s0.loc.length)) fun loc' => s0.afterK loc' d0 ((bl false : TV).up ρ s0.loc.length) K0) : CallAt prog al0 s0 94 as0 d0 K0 :=
  callx_readyO ρ (readyO_ok p s nc nt nl t hn ht hn1) cn_ ca_ co_ cl_ cT_ cF_
end Go.Proofs.AYT
