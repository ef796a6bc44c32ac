/- Plain words, and contracts of the program's functions. Conditions: as each theorem tells. -/
import Derived.Test.YteippbbcihgabaaBAyS48
set_option linter.unusedVariables false
set_option linter.unusedSimpArgs false
set_option linter.unusedSectionVars false
namespace Go.Proofs.AYT
open Go Go.Proofs.AY Go.Proofs.Try
set_option maxRecDepth 100000 in
theorem FnLogReplayNone_ok (n : Nat) (b : Nat → Int) (hb : ∀ i, 0 ≤ b i ∧ b i < 256) : CallOK prog 10 [bytes n b] [] (fun r os => os = [] ∧ r = bl true) := by
  refine fn_ (D := []) [] tab_ok hmo func10 rfl rfl rfl rfl ?_
  repeat' ((conv => whnf); first | (refine And.intro ?_ ?_) | (intro _) | (apply call0_ (g := 34); refine call_DrawLogReplay [] hb rfl ⟨⟨rfl, rfl, fun _ _ => rfl⟩, trivial⟩ trivial (by first | exact trivial | exact ⟨trivial, trivial⟩) ?_))
  all_goals first | omega | skip
  · ((conv => whnf); apply ret_ []; apply retAt0 (r := bl true); rfl; exact ⟨rfl, rfl⟩)
  · rename_i cs L hL
    have hc : cs.length ≤ 1099511627776 := by have := hL.hc; omega
    conv => whnf
    rcases hR : replayF cs L with _ | ds
    · repeat' ((conv => whnf); first | (refine And.intro ?_ ?_) | (intro _) | (apply call0_ (g := 35); refine call_sLogReplayR [] (o := none) hc hR rfl ⟨⟨rfl, rfl, fun _ _ => rfl⟩, ⟨rfl, rfl, fun _ _ => rfl⟩, trivial⟩ trivial (by first | exact trivial | exact ⟨trivial, trivial⟩) ?_) | (apply call0_ (g := 36); refine call_iLogReplayR [] (L := L) (o := none) hc hR rfl ⟨⟨rfl, rfl, fun _ _ => rfl⟩, ⟨rfl, rfl, fun _ _ => rfl⟩, trivial⟩ trivial (by first | exact trivial | exact ⟨trivial, trivial⟩) ?_) | (apply call0_ (g := 36); refine call_iLogReplayR [] (L := []) (o := some cs) hc rfl rfl ⟨⟨rfl, rfl, fun _ _ => rfl⟩, rfl, trivial⟩ trivial (by first | exact trivial | exact ⟨trivial, trivial⟩) ?_) | (apply call0_ (g := 19); refine call_lqInts []  rfl ⟨⟨rfl, rfl, fun _ _ => rfl⟩, ⟨rfl, rfl, fun _ _ => rfl⟩, trivial⟩ trivial (by first | exact trivial | exact ⟨trivial, trivial⟩) ?_ ?_))
      all_goals first | exact absurd rfl (by assumption) | (exfalso; simp only [Option.getD_some] at *; omega) | ((conv => whnf); apply ret_ []; apply retAt0 (r := bl true); rfl; exact ⟨rfl, rfl⟩) | (trace_state; sorry)
    · have hlen : ds.length = cs.length := replayF_len hR
      repeat' ((conv => whnf); first | (refine And.intro ?_ ?_) | (intro _) | (apply call0_ (g := 35); refine call_sLogReplayR [] (o := some ds) hc hR rfl ⟨⟨rfl, rfl, fun _ _ => rfl⟩, ⟨rfl, rfl, fun _ _ => rfl⟩, trivial⟩ trivial (by first | exact trivial | exact ⟨trivial, trivial⟩) ?_) | (apply call0_ (g := 36); refine call_iLogReplayR [] (L := L) (o := some ds) hc hR rfl ⟨⟨rfl, rfl, fun _ _ => rfl⟩, ⟨rfl, rfl, fun _ _ => rfl⟩, trivial⟩ trivial (by first | exact trivial | exact ⟨trivial, trivial⟩) ?_) | (apply call0_ (g := 36); refine call_iLogReplayR [] (L := []) (o := some cs) hc rfl rfl ⟨⟨rfl, rfl, fun _ _ => rfl⟩, rfl, trivial⟩ trivial (by first | exact trivial | exact ⟨trivial, trivial⟩) ?_) | (apply call0_ (g := 19); refine call_lqInts []  rfl ⟨⟨rfl, rfl, fun _ _ => rfl⟩, ⟨rfl, rfl, fun _ _ => rfl⟩, trivial⟩ trivial (by first | exact trivial | exact ⟨trivial, trivial⟩) ?_ ?_))
      all_goals first | exact absurd rfl (by assumption) | (exfalso; simp only [Option.getD_some] at *; omega) | ((conv => whnf); apply ret_ []; apply retAt0 (r := bl true); rfl; exact ⟨rfl, rfl⟩) | (trace_state; sorry)
theorem callx_FnLogReplayNone {al0 : Lim} {s0 : St} {as0 : List Operand} {d0 : Option Tmp} {K0 : St → Prop} {n : Nat} {b : Nat → Int} (ρ : List Sel) (cok_ : CallOK prog 10 [bytes n b] [] (fun r os => os = [] ∧ r = bl true)) (cn_ : nodupB (keysOf ρ) = true) (ca_ : tvsLe ρ s0.loc.length (as0.map (ev s0)) [bytes n b]) (co_ : locLe ρ s0.loc.length s0.loc s0.fz ρ []) (cl_ : limP al0 s0.loc ρ True) (ck_ : placesK s0.loc ρ ([].map (AObj.up ρ s0.loc.length)) fun loc' => s0.afterK loc' d0 ((bl true : TV).up ρ s0.loc.length) K0) : CallAt prog al0 s0 10 as0 d0 K0 :=
  callB ρ cok_ cn_ ca_ co_ cl_ (by rintro r os ⟨rfl, rfl⟩; exact ck_ )
theorem call_FnLogReplayNone {al0 : Lim} {s0 : St} {as0 : List Operand} {d0 : Option Tmp} {K0 : St → Prop} {n : Nat} {b : Nat → Int} (ρ : List Sel) (hb : ∀ i, 0 ≤ b i ∧ b i < 256) (cn_ : nodupB (keysOf ρ) = true) (ca_ : tvsLe ρ s0.loc.length (as0.map (ev s0)) [bytes n b]) (co_ : locLe ρ s0.loc.length s0.loc s0.fz ρ []) (cl_ : limP al0 s0.loc ρ True) (ck_ : placesK s0.loc ρ ([].map (AObj.up ρ s0.loc.length)) fun loc' => s0.afterK loc' d0 ((bl true : TV).up ρ s0.loc.length) K0) : CallAt prog al0 s0 10 as0 d0 K0 :=
  callx_FnLogReplayNone ρ (FnLogReplayNone_ok n b hb) cn_ ca_ co_ cl_ ck_
end Go.Proofs.AYT

