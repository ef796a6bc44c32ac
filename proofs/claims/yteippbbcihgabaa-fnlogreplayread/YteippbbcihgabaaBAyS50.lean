/- A symbolic executor over the model, plain words, and contracts of the program's functions, part 28. Conditions: as each theorem tells. -/
import Derived.Test.YteippbbcihgabaaBAyS48
set_option linter.unusedVariables false
set_option linter.unusedSimpArgs false
set_option linter.unusedSectionVars false
namespace Go.Proofs.AYT
open Go Go.Proofs.AY Go.Proofs.Try
set_option maxRecDepth 100000 in
theorem FnLogReplayCut_ok (n : Nat) (b : Nat → Int) (m : Nat) (c : Nat → Int) (hb : ∀ i, 0 ≤ b i ∧ b i < 256) (hc : ∀ i, 0 ≤ c i ∧ c i < 256) : CallOK prog 9 [bytes n b, bytes m c] [] (fun r os => os = [] ∧ r = bl true) := by
  refine fn_ (D := []) [] tab_ok hmo func9 rfl rfl rfl rfl ?_
  repeat' ((conv => whnf); first | (refine And.intro ?_ ?_) | (intro _) | (apply call0_ (g := 34); refine call_DrawLogReplay [] hb rfl ⟨⟨rfl, rfl, fun _ _ => rfl⟩, trivial⟩ trivial (by first | exact trivial | exact ⟨trivial, trivial⟩) ?_))
  all_goals first | omega | skip
  · ((conv => whnf); apply ret_ []; apply retAt0 (r := bl true); rfl; exact ⟨rfl, rfl⟩)
  · ((conv => whnf); apply ret_ []; apply retAt0 (r := bl true); rfl; exact ⟨rfl, rfl⟩)
  · rename_i cs L hL
    have hcs : cs.length ≤ 1099511627776 := by have := hL.hc; omega
    have hl := hL.hl
    have hk := tmod_b (m : Int) (L.length + 1) (by omega)
    obtain ⟨k, hk2⟩ : ∃ k, k = ((m : Int).tmod (L.length + 1)).toNat := ⟨_, rfl⟩
    have hlen : ((m : Int).tmod (L.length + 1)).toNat - 0 = (L.take k).length := by rw [List.length_take]; omega
    have hlen2 : L.length - ((m : Int).tmod (L.length + 1)).toNat = (L.drop k).length := by rw [List.length_drop]; omega
    have hR := replay_take (cs := cs) (L := L) (k := k)
    conv => whnf
    rcases hT : replayF cs (L.take k) with _ | es
    · have hN : replayF cs L = none := by rw [hR, hT, replay_none]
      repeat' ((conv => whnf); first | (refine And.intro ?_ ?_) | (intro _) | (apply call0_ (g := 35); refine call_sLogReplayR [] (o := none) hcs hN rfl ⟨⟨rfl, rfl, fun _ _ => rfl⟩, ⟨rfl, rfl, fun _ _ => rfl⟩, trivial⟩ trivial (by first | exact trivial | exact ⟨trivial, trivial⟩) ?_) | (apply call0_ (g := 36); refine call_iLogReplayR [] (L := L) (o := none) hcs hN rfl ⟨⟨rfl, rfl, fun _ _ => rfl⟩, ⟨rfl, rfl, fun _ _ => rfl⟩, trivial⟩ trivial (by first | exact trivial | exact ⟨trivial, trivial⟩) ?_) | (apply call0_ (g := 36); refine call_iLogReplayR [] (L := L.take k) (o := none) hcs hT rfl ⟨⟨rfl, rfl, fun _ _ => rfl⟩, ⟨rfl, hlen, take_enc eEntry L k⟩, trivial⟩ trivial (by first | exact trivial | exact ⟨trivial, trivial⟩) ?_) | (apply call0_ (g := 19); refine call_lqInts []  rfl ⟨⟨rfl, rfl, fun _ _ => rfl⟩, ⟨rfl, rfl, fun _ _ => rfl⟩, trivial⟩ trivial (by first | exact trivial | exact ⟨trivial, trivial⟩) ?_ ?_))
      all_goals first | omega | skip
      (all_goals first | exact absurd rfl (by assumption) | (exfalso; simp only [Option.getD_some] at *; omega) | ((conv => whnf); apply ret_ []; apply retAt0 (r := bl true); rfl; exact ⟨rfl, rfl⟩) | (trace_state; sorry))
    · have he := replayF_len hT
      rcases hU : replayF es (L.drop k) with _ | ds
      · have hN : replayF cs L = none := by rw [hR, hT]; exact hU
        repeat' ((conv => whnf); first | (refine And.intro ?_ ?_) | (intro _) | (apply call0_ (g := 35); refine call_sLogReplayR [] (o := none) hcs hN rfl ⟨⟨rfl, rfl, fun _ _ => rfl⟩, ⟨rfl, rfl, fun _ _ => rfl⟩, trivial⟩ trivial (by first | exact trivial | exact ⟨trivial, trivial⟩) ?_) | (apply call0_ (g := 36); refine call_iLogReplayR [] (L := L) (o := none) hcs hN rfl ⟨⟨rfl, rfl, fun _ _ => rfl⟩, ⟨rfl, rfl, fun _ _ => rfl⟩, trivial⟩ trivial (by first | exact trivial | exact ⟨trivial, trivial⟩) ?_) | (apply call0_ (g := 36); refine call_iLogReplayR [] (L := L.take k) (o := some es) hcs hT rfl ⟨⟨rfl, rfl, fun _ _ => rfl⟩, ⟨rfl, hlen, take_enc eEntry L k⟩, trivial⟩ trivial (by first | exact trivial | exact ⟨trivial, trivial⟩) ?_) | (apply call0_ (g := 36); refine call_iLogReplayR [] (cs := es) (L := L.drop k) (o := none) (by omega) hU rfl ⟨⟨rfl, rfl, fun _ _ => rfl⟩, ⟨rfl, hlen2, fun j hj => by rw [← hk2]; exact drop_enc eEntry L k j hj⟩, trivial⟩ trivial (by first | exact trivial | exact ⟨trivial, trivial⟩) ?_) | (apply call0_ (g := 19); refine call_lqInts []  rfl ⟨⟨rfl, rfl, fun _ _ => rfl⟩, ⟨rfl, rfl, fun _ _ => rfl⟩, trivial⟩ trivial (by first | exact trivial | exact ⟨trivial, trivial⟩) ?_ ?_))
        all_goals first | omega | skip
        (all_goals first | exact absurd rfl (by assumption) | (exfalso; simp only [Option.getD_some] at *; omega) | ((conv => whnf); apply ret_ []; apply retAt0 (r := bl true); rfl; exact ⟨rfl, rfl⟩) | (trace_state; sorry))
      · have hN : replayF cs L = some ds := by rw [hR, hT]; exact hU
        repeat' ((conv => whnf); first | (refine And.intro ?_ ?_) | (intro _) | (apply call0_ (g := 35); refine call_sLogReplayR [] (o := some ds) hcs hN rfl ⟨⟨rfl, rfl, fun _ _ => rfl⟩, ⟨rfl, rfl, fun _ _ => rfl⟩, trivial⟩ trivial (by first | exact trivial | exact ⟨trivial, trivial⟩) ?_) | (apply call0_ (g := 36); refine call_iLogReplayR [] (L := L) (o := some ds) hcs hN rfl ⟨⟨rfl, rfl, fun _ _ => rfl⟩, ⟨rfl, rfl, fun _ _ => rfl⟩, trivial⟩ trivial (by first | exact trivial | exact ⟨trivial, trivial⟩) ?_) | (apply call0_ (g := 36); refine call_iLogReplayR [] (L := L.take k) (o := some es) hcs hT rfl ⟨⟨rfl, rfl, fun _ _ => rfl⟩, ⟨rfl, hlen, take_enc eEntry L k⟩, trivial⟩ trivial (by first | exact trivial | exact ⟨trivial, trivial⟩) ?_) | (apply call0_ (g := 36); refine call_iLogReplayR [] (cs := es) (L := L.drop k) (o := some ds) (by omega) hU rfl ⟨⟨rfl, rfl, fun _ _ => rfl⟩, ⟨rfl, hlen2, fun j hj => by rw [← hk2]; exact drop_enc eEntry L k j hj⟩, trivial⟩ trivial (by first | exact trivial | exact ⟨trivial, trivial⟩) ?_) | (apply call0_ (g := 19); refine call_lqInts []  rfl ⟨⟨rfl, rfl, fun _ _ => rfl⟩, ⟨rfl, rfl, fun _ _ => rfl⟩, trivial⟩ trivial (by first | exact trivial | exact ⟨trivial, trivial⟩) ?_ ?_))
        all_goals first | omega | skip
        (all_goals first | exact absurd rfl (by assumption) | (exfalso; simp only [Option.getD_some] at *; omega) | ((conv => whnf); apply ret_ []; apply retAt0 (r := bl true); rfl; exact ⟨rfl, rfl⟩) | (trace_state; sorry))
theorem callx_FnLogReplayCut {al0 : Lim} {s0 : St} {as0 : List Operand} {d0 : Option Tmp} {K0 : St → Prop} {n : Nat} {b : Nat → Int} {m : Nat} {c : Nat → Int} (ρ : List Sel) (cok_ : CallOK prog 9 [bytes n b, bytes m c] [] (fun r os => os = [] ∧ r = bl true)) (cn_ : nodupB (keysOf ρ) = true) (ca_ : tvsLe ρ s0.loc.length (as0.map (ev s0)) [bytes n b, bytes m c]) (co_ : locLe ρ s0.loc.length s0.loc s0.fz ρ []) (cl_ : limP al0 s0.loc ρ True) (ck_ : placesK s0.loc ρ ([].map (AObj.up ρ s0.loc.length)) fun loc' => s0.afterK loc' d0 ((bl true : TV).up ρ s0.loc.length) K0) : CallAt prog al0 s0 9 as0 d0 K0 :=
  callB ρ cok_ cn_ ca_ co_ cl_ (by rintro r os ⟨rfl, rfl⟩; exact ck_ )
theorem call_FnLogReplayCut {al0 : Lim} {s0 : St} {as0 : List Operand} {d0 : Option Tmp} {K0 : St → Prop} {n : Nat} {b : Nat → Int} {m : Nat} {c : Nat → Int} (ρ : List Sel) (hb : ∀ i, 0 ≤ b i ∧ b i < 256) (hc : ∀ i, 0 ≤ c i ∧ c i < 256) (cn_ : nodupB (keysOf ρ) = true) (ca_ : tvsLe ρ s0.loc.length (as0.map (ev s0)) [bytes n b, bytes m c]) (co_ : locLe ρ s0.loc.length s0.loc s0.fz ρ []) (cl_ : limP al0 s0.loc ρ True) (ck_ : placesK s0.loc ρ ([].map (AObj.up ρ s0.loc.length)) fun loc' => s0.afterK loc' d0 ((bl true : TV).up ρ s0.loc.length) K0) : CallAt prog al0 s0 9 as0 d0 K0 :=
  callx_FnLogReplayCut ρ (FnLogReplayCut_ok n b m c hb hc) cn_ ca_ co_ cl_ ck_
end Go.Proofs.AYT
