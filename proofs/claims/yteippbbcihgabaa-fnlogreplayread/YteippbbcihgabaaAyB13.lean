/- A symbolic executor over the model, plain words, and contracts of the program's functions, part 13. Conditions: as each theorem tells. -/
import Derived.Test.YteippbbcihgabaaAyB12
import Derived.Test.YteippbbcihgabaaAyB04
set_option linter.unusedVariables false
set_option linter.unusedSimpArgs false
set_option linter.unusedSectionVars false
namespace Go.Proofs.AYT
open Go Go.Proofs.AY Go.Proofs.Try
set_option maxHeartbeats 20000000 in
set_option maxRecDepth 100000 in
theorem l11Copy_ok (s : DSys) (h1 : s.cells.length ≤ 1000000000) (h2 : s.tasks.length ≤ 1000000000) (h3 : s.log.length ≤ 1000000000) (hf : ∀ k, k < s.tasks.length → (tk s k).regs.length = 3 ∧ (tk s k).old.length = 3 ∧ (tk s k).reads.length ≤ 1000000 ∧ (tk s k).puts.length ≤ 1000000) (he : ∀ x ∈ s.log, smallE x) : CallOK prog 75 [.a (eSys s)] [] (fun r os => os = [wC s s.cells.length, wT s s.tasks.length 3, wL s s.log.length, wR s s.tasks.length] ∧ r = .a [.s ⟨0, 0⟩ s.cells.length, .s ⟨1, 0⟩ s.tasks.length, iv s.clock, .s ⟨2, 0⟩ s.log.length]) := by
  refine fn_ [2] tab_ok hmo func75 rfl rfl plans75_ok rfl ?_
  apply cut_ (fun u : Unit => True) (fun u : Unit => (⟨80, [(1, ptr 0), (2, ptr 1), (3, ptr 2)], [.box 27 (eSys s), .box 27 [.v (.slice none 0 0), .v (.slice none 0 0), iv 0, .v (.slice none 0 0)], .box 27 [.s ⟨3, 0⟩ s.cells.length, .s ⟨4, 0⟩ 0, iv s.clock, .s ⟨5, 0⟩ 0], wC s s.cells.length, .row 49 13 0 (fun _ => []), .row 40 6 0 (fun _ => [])], []⟩ : St))
  · repeat' ((conv => whnf); first | (refine And.intro ?_ ?_) | (intro _))
    all_goals first
    | omega
    | (simp only [ti33]; omega)
    | ((try (conv => whnf))
       apply to_ []
       refine toR_ [.all 0, .all 1] [3, 11, 12, 15] () _ (by (conv => lhs; whnf; arg 2; whnf; arg 2; whnf)) trivial ?_
       exact ⟨rfl, rfl, rfl, rfl, ⟨rfl, rfl, rfl, trivial⟩, ⟨trivial, rfl, ⟨rfl, rfl, fun _ _ => rfl⟩, ⟨rfl, rfl, fun _ _ => rfl⟩, rfl, ⟨rfl, rfl, fun _ _ => rfl⟩, trivial⟩, ⟨trivial, rfl, rfl, rfl, rfl, rfl, trivial⟩, ⟨trivial, rfl, congrArg (CV.s _) (Nat.zero_add _), rfl, rfl, rfl, trivial⟩, ⟨trivial, rfl, rfl, Nat.zero_add _, fun _ _ => ⟨rfl, rfl, rfl, trivial⟩⟩, ⟨trivial, rfl, rfl, rfl, fun _ h => absurd h (Nat.not_lt_zero _)⟩, ⟨trivial, rfl, rfl, rfl, fun _ h => absurd h (Nat.not_lt_zero _)⟩, trivial⟩)
    | skip
  · intro _ _
    repeat' ((conv => whnf); first | (refine And.intro ?_ ?_) | (intro _))
    apply loop_ (fun i : Nat => i ≤ s.tasks.length) (fun i : Nat => (⟨80, [(1, ptr 0), (2, ptr 1), (3, ptr 2), (4, int i)], [.box 27 (eSys s), .box 27 [.v (.slice none 0 0), .v (.slice none 0 0), iv 0, .v (.slice none 0 0)], .box 27 [.s ⟨3, 0⟩ s.cells.length, .s ⟨4, 0⟩ i, iv s.clock, .s ⟨5, 0⟩ 0], wC s s.cells.length, .row 49 13 i (fun j => eTaskO (s.tasks.getD j default) 6 j), .row 40 6 0 (fun _ => []), .rows 3 1 i 3 (fun j k => eI ((s.tasks.getD j default).regs.getD k default))], []⟩ : St)) (fun i : Nat => s.tasks.length - i)
    · apply to_ []; apply toAt_ [.all 0, .all 1, .all 2, .all 3, .all 4, .all 5, .all 100] 0; rotate_left 1
      exact ⟨rfl, rfl, rfl, rfl, ⟨rfl, rfl, rfl, rfl, trivial⟩, ⟨trivial, rfl, ⟨rfl, rfl, fun _ _ => rfl⟩, ⟨rfl, rfl, fun _ _ => rfl⟩, rfl, ⟨rfl, rfl, fun _ _ => rfl⟩, trivial⟩, ⟨trivial, rfl, rfl, rfl, rfl, rfl, trivial⟩, ⟨trivial, rfl, rfl, rfl, rfl, rfl, trivial⟩, ⟨trivial, rfl, rfl, rfl, fun _ _ => ⟨rfl, rfl, rfl, trivial⟩⟩, ⟨trivial, rfl, rfl, rfl, fun _ h => absurd h (Nat.not_lt_zero _)⟩, ⟨trivial, rfl, rfl, rfl, fun _ h => absurd h (Nat.not_lt_zero _)⟩, ⟨trivial, fun _ h => absurd h (Nat.not_lt_zero _)⟩, trivial⟩
      exact Nat.zero_le _
    · rintro i hi
      have hfi : i < s.tasks.length → (s.tasks.getD i default).regs.length = 3 ∧ (s.tasks.getD i default).old.length = 3 ∧ (s.tasks.getD i default).reads.length ≤ 1000000 ∧ (s.tasks.getD i default).puts.length ≤ 1000000 := hf i
      repeat' ((conv => whnf); first | (refine And.intro ?_ ?_) | (intro _) | (apply call0_ (g := 87); refine call_l11Puts [] (l := (s.tasks.getD i default).reads) (by omega) rfl ⟨⟨rfl, rfl, fun _ _ => rfl⟩, trivial⟩ trivial (by first | exact trivial | exact ⟨trivial, trivial⟩) ?_) | (apply call0_ (g := 87); refine call_l11Puts [] (l := (s.tasks.getD i default).puts) (by omega) rfl ⟨⟨rfl, rfl, fun _ _ => rfl⟩, trivial⟩ trivial (by first | exact trivial | exact ⟨trivial, trivial⟩) ?_))
      all_goals (try simp only [Int.toNat_natCast] at *)
      all_goals first | omega | (simp only [ti3]; omega) | (simp only [ti49]; omega) | skip
      all_goals (conv => whnf)
      · apply to_ [11]
        refine And.intro (fun _ _ => rfl) ?_
        apply toAt_ [.all 0, .all 1, .all 2, .all 3, .all 13, .all 5, .grow 6 i 9] (i + 1); rotate_left 1
        have hq := hfi (by omega)
        exact ⟨rfl, rfl, rfl, rfl, ⟨rfl, rfl, rfl, rfl, trivial⟩, ⟨trivial, rfl, ⟨rfl, rfl, fun _ _ => rfl⟩, ⟨rfl, rfl, fun _ _ => rfl⟩, rfl, ⟨rfl, rfl, fun _ _ => rfl⟩, trivial⟩, ⟨trivial, rfl, rfl, rfl, rfl, rfl, trivial⟩, ⟨trivial, rfl, rfl, rfl, rfl, rfl, trivial⟩, ⟨trivial, rfl, rfl, rfl, fun _ _ => ⟨rfl, rfl, rfl, trivial⟩⟩, ⟨trivial, rfl, rfl, rfl, snocAt (enc := fun j => eTaskO (s.tasks.getD j default) 6 j) (fun j hj => ⟨rfl, rfl, rfl, gr_lt rfl hj, rfl, rfl, rfl, rfl, ⟨rfl, rfl, fun _ _ => rfl⟩, ⟨rfl, rfl, fun _ _ => rfl⟩, ⟨rfl, rfl, fun _ _ => rfl⟩, rfl, rfl, trivial⟩) (fun j => ⟨rfl, rfl, rfl, gr_eq' rfl (by rw [Nat.zero_add]; exact hq.1), rfl, rfl, rfl, rfl, ⟨rfl, Nat.zero_add _, fun _ _ => rfl⟩, ⟨rfl, rfl, fun _ _ => rfl⟩, ⟨rfl, rfl, fun _ _ => rfl⟩, rfl, rfl, trivial⟩)⟩, ⟨trivial, rfl, rfl, rfl, fun _ h => absurd h (Nat.not_lt_zero _)⟩, growLe rfl rfl (by rw [Nat.zero_add]; exact hq.1) (fun j hj k hk => ⟨rfl, trivial⟩) (fun k hk => ⟨rfl, trivial⟩), trivial⟩
        exact ⟨by omega, by omega⟩
      · have ei : i = s.tasks.length := by omega
        subst ei
        apply loop_ (fun i : Nat => i ≤ s.log.length) (fun i : Nat => (⟨80, [(1, ptr 0), (2, ptr 1), (3, ptr 2), (6, int i)], [.box 27 (eSys s), .box 27 [.v (.slice none 0 0), .v (.slice none 0 0), iv 0, .v (.slice none 0 0)], .box 27 [.s ⟨3, 0⟩ s.cells.length, .s ⟨4, 0⟩ s.tasks.length, iv s.clock, .s ⟨5, 0⟩ i], wC s s.cells.length, wT s s.tasks.length 6, .row 40 6 i (fun j => eEntry (s.log.getD j default)), wR s s.tasks.length], []⟩ : St)) (fun i : Nat => s.log.length - i)
        · apply to_ []; apply toAt_ [.all 0, .all 1, .all 2, .all 3, .all 4, .all 5, .all 6] 0; rotate_left 1
          exact ⟨rfl, rfl, rfl, rfl, ⟨rfl, rfl, rfl, rfl, trivial⟩, ⟨trivial, rfl, ⟨rfl, rfl, fun _ _ => rfl⟩, ⟨rfl, rfl, fun _ _ => rfl⟩, rfl, ⟨rfl, rfl, fun _ _ => rfl⟩, trivial⟩, ⟨trivial, rfl, rfl, rfl, rfl, rfl, trivial⟩, ⟨trivial, rfl, rfl, rfl, rfl, rfl, trivial⟩, ⟨trivial, rfl, rfl, rfl, fun _ _ => ⟨rfl, rfl, rfl, trivial⟩⟩, ⟨trivial, rfl, rfl, rfl, fun _ _ => ⟨rfl, rfl, rfl, rfl, rfl, rfl, rfl, rfl, ⟨rfl, rfl, fun _ _ => rfl⟩, ⟨rfl, rfl, fun _ _ => rfl⟩, ⟨rfl, rfl, fun _ _ => rfl⟩, rfl, rfl, trivial⟩⟩, ⟨trivial, rfl, rfl, rfl, fun _ h => absurd h (Nat.not_lt_zero _)⟩, ⟨trivial, fun _ hi => ⟨hi, rfl, rfl, rfl, fun _ _ => ⟨rfl, trivial⟩⟩⟩, trivial⟩
          exact Nat.zero_le _
        · rintro i hi
          have hei : i < s.log.length → (s.log.getD i default).reads.length ≤ 1000000 ∧ (s.log.getD i default).puts.length ≤ 1000000 := fun h => he _ (getD_mem default h)
          repeat' ((conv => whnf); first | (refine And.intro ?_ ?_) | (intro _) | (apply call0_ (g := 87); refine call_l11Puts [] (l := (s.log.getD i default).reads) (by omega) rfl ⟨⟨rfl, rfl, fun _ _ => rfl⟩, trivial⟩ trivial (by first | exact trivial | exact ⟨trivial, trivial⟩) ?_) | (apply call0_ (g := 87); refine call_l11Puts [] (l := (s.log.getD i default).puts) (by omega) rfl ⟨⟨rfl, rfl, fun _ _ => rfl⟩, trivial⟩ trivial (by first | exact trivial | exact ⟨trivial, trivial⟩) ?_))
          all_goals (try simp only [Int.toNat_natCast] at *)
          all_goals first | omega | (simp only [ti40]; omega) | skip
          all_goals (conv => whnf)
          · apply to_ []; apply toAt_ [.all 0, .all 1, .all 2, .all 3, .all 4, .all 9, .all 6] (i + 1); rotate_left 1
            exact ⟨rfl, rfl, rfl, rfl, ⟨rfl, rfl, rfl, rfl, trivial⟩, ⟨trivial, rfl, ⟨rfl, rfl, fun _ _ => rfl⟩, ⟨rfl, rfl, fun _ _ => rfl⟩, rfl, ⟨rfl, rfl, fun _ _ => rfl⟩, trivial⟩, ⟨trivial, rfl, rfl, rfl, rfl, rfl, trivial⟩, ⟨trivial, rfl, rfl, rfl, rfl, rfl, trivial⟩, ⟨trivial, rfl, rfl, rfl, fun _ _ => ⟨rfl, rfl, rfl, trivial⟩⟩, ⟨trivial, rfl, rfl, rfl, fun _ _ => ⟨rfl, rfl, rfl, rfl, rfl, rfl, rfl, rfl, ⟨rfl, rfl, fun _ _ => rfl⟩, ⟨rfl, rfl, fun _ _ => rfl⟩, ⟨rfl, rfl, fun _ _ => rfl⟩, rfl, rfl, trivial⟩⟩, ⟨trivial, rfl, rfl, rfl, snocAt (enc := fun j => eEntry (s.log.getD j default)) (fun j hj => ⟨rfl, rfl, rfl, ⟨rfl, rfl, fun _ _ => rfl⟩, ⟨rfl, rfl, fun _ _ => rfl⟩, rfl, trivial⟩) (fun j => ⟨rfl, rfl, rfl, ⟨rfl, rfl, fun _ _ => rfl⟩, ⟨rfl, rfl, fun _ _ => rfl⟩, rfl, trivial⟩)⟩, ⟨trivial, fun _ hi => ⟨hi, rfl, rfl, rfl, fun _ _ => ⟨rfl, trivial⟩⟩⟩, trivial⟩
            exact ⟨by omega, by omega⟩
          · have ei : i = s.log.length := by omega
            subst ei
            apply ret_ []
            apply retAt_ [.all 3, .all 4, .all 5, .all 6] (.a [.s ⟨0, 0⟩ s.cells.length, .s ⟨1, 0⟩ s.tasks.length, iv s.clock, .s ⟨2, 0⟩ s.log.length]) [wC s s.cells.length, wT s s.tasks.length 3, wL s s.log.length, wR s s.tasks.length] rfl rfl
            · exact ⟨rfl, rfl, rfl, rfl, trivial⟩
            · exact ⟨⟨trivial, rfl, rfl, rfl, fun _ _ => ⟨rfl, rfl, rfl, trivial⟩⟩, ⟨trivial, rfl, rfl, rfl, fun _ _ => ⟨rfl, rfl, rfl, rfl, rfl, rfl, rfl, rfl, ⟨rfl, rfl, fun _ _ => rfl⟩, ⟨rfl, rfl, fun _ _ => rfl⟩, ⟨rfl, rfl, fun _ _ => rfl⟩, rfl, rfl, trivial⟩⟩, ⟨trivial, rfl, rfl, rfl, fun _ _ => ⟨rfl, rfl, rfl, ⟨rfl, rfl, fun _ _ => rfl⟩, ⟨rfl, rfl, fun _ _ => rfl⟩, rfl, trivial⟩⟩, ⟨trivial, fun _ hi => ⟨hi, rfl, rfl, rfl, fun _ _ => ⟨rfl, trivial⟩⟩⟩, trivial⟩
            · exact ⟨rfl, rfl⟩
theorem callx_l11Copy {al0 : Lim} {s0 : St} {as0 : List Operand} {d0 : Option Tmp} {K0 : St → Prop} {s : DSys} (ρ : List Sel) (cok_ : CallOK prog 75 [.a (eSys s)] [] (fun r os => os = [wC s s.cells.length, wT s s.tasks.length 3, wL s s.log.length, wR s s.tasks.length] ∧ r = .a [.s ⟨0, 0⟩ s.cells.length, .s ⟨1, 0⟩ s.tasks.length, iv s.clock, .s ⟨2, 0⟩ s.log.length])) (cn_ : nodupB (keysOf ρ) = true) (ca_ : tvsLe ρ s0.loc.length (as0.map (ev s0)) [.a (eSys s)]) (co_ : locLe ρ s0.loc.length s0.loc s0.fz ρ []) (cl_ : limP al0 s0.loc ρ True) (ck_ : placesK s0.loc ρ ([wC s s.cells.length, wT s s.tasks.length 3, wL s s.log.length, wR s s.tasks.length].map (AObj.up ρ s0.loc.length)) fun loc' => s0.afterK loc' d0 ((.a [.s ⟨0, 0⟩ s.cells.length, .s ⟨1, 0⟩ s.tasks.length, iv s.clock, .s ⟨2, 0⟩ s.log.length] : TV).up ρ s0.loc.length) K0) : CallAt prog al0 s0 75 as0 d0 K0 :=
  callB ρ cok_ cn_ ca_ co_ cl_ (by rintro r os ⟨rfl, rfl⟩; exact ck_ )
theorem call_l11Copy {al0 : Lim} {s0 : St} {as0 : List Operand} {d0 : Option Tmp} {K0 : St → Prop} {s : DSys} (ρ : List Sel) (h1 : s.cells.length ≤ 1000000000) (h2 : s.tasks.length ≤ 1000000000) (h3 : s.log.length ≤ 1000000000) (hf : ∀ k, k < s.tasks.length → (tk s k).regs.length = 3 ∧ (tk s k).old.length = 3 ∧ (tk s k).reads.length ≤ 1000000 ∧ (tk s k).puts.length ≤ 1000000) (he : ∀ x ∈ s.log, smallE x) (cn_ : nodupB (keysOf ρ) = true) (ca_ : tvsLe ρ s0.loc.length (as0.map (ev s0)) [.a (eSys s)]) (co_ : locLe ρ s0.loc.length s0.loc s0.fz ρ []) (cl_ : limP al0 s0.loc ρ True) (ck_ : placesK s0.loc ρ ([wC s s.cells.length, wT s s.tasks.length 3, wL s s.log.length, wR s s.tasks.length].map (AObj.up ρ s0.loc.length)) fun loc' => s0.afterK loc' d0 ((.a [.s ⟨0, 0⟩ s.cells.length, .s ⟨1, 0⟩ s.tasks.length, iv s.clock, .s ⟨2, 0⟩ s.log.length] : TV).up ρ s0.loc.length) K0) : CallAt prog al0 s0 75 as0 d0 K0 :=
  callx_l11Copy ρ (l11Copy_ok s h1 h2 h3 hf he) cn_ ca_ co_ cl_ ck_
end Go.Proofs.AYT
