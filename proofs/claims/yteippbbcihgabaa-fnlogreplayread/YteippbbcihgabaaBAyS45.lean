/- A symbolic executor over the model, plain words, and contracts of the program's functions, part 24. Conditions: as each theorem tells. -/
import Derived.Test.YteippbbcihgabaaBAyS44
import Derived.Test.YteippbbcihgabaaAyB09
set_option linter.unusedVariables false
set_option linter.unusedSimpArgs false
set_option linter.unusedSectionVars false
namespace Go.Proofs.AYT
open Go Go.Proofs.AY Go.Proofs.Try
def plans19 : Plans := [(6, ⟨.take 0 false (.take 1 false (.take 2 false (.take 4 false (.take 5 false (.take 6 false (.take 3 true (.take 7 true (.take 8 false .done)))))))), [], []⟩)]
theorem plans19_ok : plansOk plans19 (bodyOf f19) = true := by kernel_rfl
theorem lqInts_ok (a e : List Int) : CallOK prog 19 [lst 1 eI a, lst 1 eI e] [] (fun r os => os = [] ∧ r = bl (decide (a = e))) := by
  refine fn_ [] tab_ok hmo func19 rfl rfl plans19_ok rfl ?_
  repeat' ((conv => whnf); first | (refine And.intro ?_ ?_) | (intro _))
  all_goals (conv => whnf)
  · rename_i hne
    (apply ret_ []; apply retAt0 (r := bl _); exact rfl; refine ⟨rfl, congrArg bl ?_⟩)
    exact (decide_eq_false (fun h => hne (by rw [h]))).symm
  · rename_i hlen
    apply loop_ (fun i : Nat => i ≤ a.length ∧ a.length = e.length ∧ ∀ j, j < i → a.getD j default = e.getD j default) (fun i : Nat => (⟨26, [(0, lst 1 eI a), (1, lst 1 eI e), (5, int i)], [], []⟩ : St)) (fun i : Nat => a.length - i)
    · (apply to_ []; apply toAt_ [] 0; rotate_left 1; exact ⟨rfl, rfl, rfl, rfl, ⟨⟨rfl, rfl, fun _ _ => rfl⟩, ⟨rfl, rfl, fun _ _ => rfl⟩, rfl, trivial⟩, trivial⟩)
      exact ⟨Nat.zero_le _, by omega, fun j hj => absurd hj (Nat.not_lt_zero _)⟩
    · rintro i ⟨h1, h2, h3⟩
      repeat' ((conv => whnf); first | (refine And.intro ?_ ?_) | (intro _))
      all_goals (try simp only [Int.toNat_natCast] at *)
      all_goals first | omega | skip
      all_goals (conv => whnf)
      · rename_i hne
        (apply ret_ []; apply retAt0 (r := bl _); exact rfl; refine ⟨rfl, congrArg bl ?_⟩)
        exact (decide_eq_false (fun h => hne (by rw [h]))).symm
      · rename_i heq
        (apply to_ []; apply toAt_ [] (i + 1); rotate_left 1; exact ⟨rfl, rfl, rfl, rfl, ⟨⟨rfl, rfl, fun _ _ => rfl⟩, ⟨rfl, rfl, fun _ _ => rfl⟩, rfl, trivial⟩, trivial⟩)
        refine ⟨⟨by omega, h2, fun j hj => ?_⟩, by omega⟩
        by_cases hji : j = i
        · rw [hji]; exact Decidable.not_not.1 heq
        · exact h3 j (by omega)
      · (apply ret_ []; apply retAt0 (r := bl _); exact rfl; refine ⟨rfl, congrArg bl ?_⟩)
        exact (decide_eq_true (list_ext h2 (fun j hj => h3 j (by omega)))).symm
theorem callx_lqInts {al0 : Lim} {s0 : St} {as0 : List Operand} {d0 : Option Tmp} {K0 : St → Prop} {a e : List Int} (ρ : List Sel) (cok_ : CallOK prog 19 [lst 1 eI a, lst 1 eI e] [] (fun r os => os = [] ∧ r = bl (decide (a = e)))) (cn_ : nodupB (keysOf ρ) = true) (ca_ : tvsLe ρ s0.loc.length (as0.map (ev s0)) [lst 1 eI a, lst 1 eI e]) (co_ : locLe ρ s0.loc.length s0.loc s0.fz ρ []) (cl_ : limP al0 s0.loc ρ True) (cT_ : (a = e) → placesK s0.loc ρ ([].map (AObj.up ρ s0.loc.length)) fun loc' => s0.afterK loc' d0 ((bl true : TV).up ρ s0.loc.length) K0) (cF_ : ¬ (a = e) → placesK s0.loc ρ ([].map (AObj.up ρ s0.loc.length)) fun loc' => s0.afterK loc' d0 ((bl false : TV).up ρ s0.loc.length) K0) : CallAt prog al0 s0 19 as0 d0 K0 :=
  callB ρ cok_ cn_ ca_ co_ cl_ (by rintro r os ⟨rfl, rfl⟩; by_cases hb : (a = e); rw [decide_eq_true hb]; exact cT_  hb ; rw [decide_eq_false hb]; exact cF_  hb )
theorem call_lqInts {al0 : Lim} {s0 : St} {as0 : List Operand} {d0 : Option Tmp} {K0 : St → Prop} {a e : List Int} (ρ : List Sel) (cn_ : nodupB (keysOf ρ) = true) (ca_ : tvsLe ρ s0.loc.length (as0.map (ev s0)) [lst 1 eI a, lst 1 eI e]) (co_ : locLe ρ s0.loc.length s0.loc s0.fz ρ []) (cl_ : limP al0 s0.loc ρ True) (cT_ : (a = e) → placesK s0.loc ρ ([].map (AObj.up ρ s0.loc.length)) fun loc' => s0.afterK loc' d0 ((bl true : TV).up ρ s0.loc.length) K0) (cF_ : ¬ (a = e) → placesK s0.loc ρ ([].map (AObj.up ρ s0.loc.length)) fun loc' => s0.afterK loc' d0 ((bl false : TV).up ρ s0.loc.length) K0) : CallAt prog al0 s0 19 as0 d0 K0 :=
  callx_lqInts ρ (lqInts_ok a e) cn_ ca_ co_ cl_ cT_ cF_
def plans71 : Plans := [(6, ⟨.take 0 false (.take 1 false (.take 2 false (.take 4 false (.take 5 false (.take 6 false (.take 3 true (.take 7 true (.alt 8 .done .done)))))))), [], []⟩)]
theorem plans71_ok : plansOk plans71 (bodyOf f71) = true := by kernel_rfl
theorem lqPuts_ok (a e : List Put) : CallOK prog 71 [lst 2 ePut a, lst 2 ePut e] [] (fun r os => os = [] ∧ r = bl (decide (a = e))) := by
  refine fn_ [] tab_ok hmo func71 rfl rfl plans71_ok rfl ?_
  repeat' ((conv => whnf); first | (refine And.intro ?_ ?_) | (intro _))
  all_goals (conv => whnf)
  · rename_i hne
    (apply ret_ []; apply retAt0 (r := bl _); exact rfl; refine ⟨rfl, congrArg bl ?_⟩)
    exact (decide_eq_false (fun h => hne (by rw [h]))).symm
  · rename_i hlen
    apply loop_ (fun i : Nat => i ≤ a.length ∧ a.length = e.length ∧ ∀ j, j < i → a.getD j default = e.getD j default) (fun i : Nat => (⟨26, [(0, lst 2 ePut a), (1, lst 2 ePut e), (5, int i)], [], []⟩ : St)) (fun i : Nat => a.length - i)
    · (apply to_ []; apply toAt_ [] 0; rotate_left 1; exact ⟨rfl, rfl, rfl, rfl, ⟨⟨rfl, rfl, fun _ _ => rfl⟩, ⟨rfl, rfl, fun _ _ => rfl⟩, rfl, trivial⟩, trivial⟩)
      exact ⟨Nat.zero_le _, by omega, fun j hj => absurd hj (Nat.not_lt_zero _)⟩
    · rintro i ⟨h1, h2, h3⟩
      repeat' ((conv => whnf); first | (refine And.intro ?_ ?_) | (intro _))
      all_goals (try simp only [Int.toNat_natCast] at *)
      all_goals first | omega | skip
      all_goals (conv => whnf)
      · rename_i hne
        (apply ret_ []; apply retAt0 (r := bl _); exact rfl; refine ⟨rfl, congrArg bl ?_⟩)
        exact (decide_eq_false (fun h => hne (by rw [h]; exact ⟨rfl, rfl, trivial⟩))).symm
      · rename_i heq
        (apply to_ []; apply toAt_ [] (i + 1); rotate_left 1; exact ⟨rfl, rfl, rfl, rfl, ⟨⟨rfl, rfl, fun _ _ => rfl⟩, ⟨rfl, rfl, fun _ _ => rfl⟩, rfl, trivial⟩, trivial⟩)
        refine ⟨⟨by omega, h2, fun j hj => ?_⟩, by omega⟩
        by_cases hji : j = i
        · rw [hji]; exact putExt heq.1 heq.2.1
        · exact h3 j (by omega)
      · (apply ret_ []; apply retAt0 (r := bl _); exact rfl; refine ⟨rfl, congrArg bl ?_⟩)
        exact (decide_eq_true (list_ext h2 (fun j hj => h3 j (by omega)))).symm
theorem callx_lqPuts {al0 : Lim} {s0 : St} {as0 : List Operand} {d0 : Option Tmp} {K0 : St → Prop} {a e : List Put} (ρ : List Sel) (cok_ : CallOK prog 71 [lst 2 ePut a, lst 2 ePut e] [] (fun r os => os = [] ∧ r = bl (decide (a = e)))) (cn_ : nodupB (keysOf ρ) = true) (ca_ : tvsLe ρ s0.loc.length (as0.map (ev s0)) [lst 2 ePut a, lst 2 ePut e]) (co_ : locLe ρ s0.loc.length s0.loc s0.fz ρ []) (cl_ : limP al0 s0.loc ρ True) (cT_ : (a = e) → placesK s0.loc ρ ([].map (AObj.up ρ s0.loc.length)) fun loc' => s0.afterK loc' d0 ((bl true : TV).up ρ s0.loc.length) K0) (cF_ : ¬ (a = e) → placesK s0.loc ρ ([].map (AObj.up ρ s0.loc.length)) fun loc' => s0.afterK loc' d0 ((bl false : TV).up ρ s0.loc.length) K0) : CallAt prog al0 s0 71 as0 d0 K0 :=
  callB ρ cok_ cn_ ca_ co_ cl_ (by rintro r os ⟨rfl, rfl⟩; by_cases hb : (a = e); rw [decide_eq_true hb]; exact cT_  hb ; rw [decide_eq_false hb]; exact cF_  hb )
theorem call_lqPuts {al0 : Lim} {s0 : St} {as0 : List Operand} {d0 : Option Tmp} {K0 : St → Prop} {a e : List Put} (ρ : List Sel) (cn_ : nodupB (keysOf ρ) = true) (ca_ : tvsLe ρ s0.loc.length (as0.map (ev s0)) [lst 2 ePut a, lst 2 ePut e]) (co_ : locLe ρ s0.loc.length s0.loc s0.fz ρ []) (cl_ : limP al0 s0.loc ρ True) (cT_ : (a = e) → placesK s0.loc ρ ([].map (AObj.up ρ s0.loc.length)) fun loc' => s0.afterK loc' d0 ((bl true : TV).up ρ s0.loc.length) K0) (cF_ : ¬ (a = e) → placesK s0.loc ρ ([].map (AObj.up ρ s0.loc.length)) fun loc' => s0.afterK loc' d0 ((bl false : TV).up ρ s0.loc.length) K0) : CallAt prog al0 s0 71 as0 d0 K0 :=
  callx_lqPuts ρ (lqPuts_ok a e) cn_ ca_ co_ cl_ cT_ cF_
def plans43 : Plans := []
theorem plans43_ok : plansOk plans43 (bodyOf f43) = true := by kernel_rfl
theorem lqEntry_ok (a e : Entry) : CallOK prog 43 [.a (eEntry a), .a (eEntry e)] [] (fun r os => os = [] ∧ r = bl (decide (a = e))) := by
  refine fn_ (D := []) [] tab_ok hmo func43 rfl rfl rfl rfl ?_
  repeat' ((conv => whnf); first | (refine And.intro ?_ ?_) | (intro _) | (apply call0_ (g := 71); refine call_lqPuts []  rfl ⟨⟨rfl, rfl, fun _ _ => rfl⟩, ⟨rfl, rfl, fun _ _ => rfl⟩, trivial⟩ trivial (by first | exact trivial | exact ⟨trivial, trivial⟩) ?_ ?_))
  all_goals (conv => whnf)
  all_goals (apply ret_ []; apply retAt0 (r := bl _); exact rfl; refine ⟨rfl, congrArg bl ?_⟩)
  all_goals first
  | exact (decide_eq_false (fun h => by subst h; contradiction)).symm
  | exact (decide_eq_true (by cases a; cases e; simp_all)).symm
  | exact (decide_eq_false (fun h => by subst h; simp_all)).symm
theorem callx_lqEntry {al0 : Lim} {s0 : St} {as0 : List Operand} {d0 : Option Tmp} {K0 : St → Prop} {a e : Entry} (ρ : List Sel) (cok_ : CallOK prog 43 [.a (eEntry a), .a (eEntry e)] [] (fun r os => os = [] ∧ r = bl (decide (a = e)))) (cn_ : nodupB (keysOf ρ) = true) (ca_ : tvsLe ρ s0.loc.length (as0.map (ev s0)) [.a (eEntry a), .a (eEntry e)]) (co_ : locLe ρ s0.loc.length s0.loc s0.fz ρ []) (cl_ : limP al0 s0.loc ρ True) (cT_ : (a = e) → placesK s0.loc ρ ([].map (AObj.up ρ s0.loc.length)) fun loc' => s0.afterK loc' d0 ((bl true : TV).up ρ s0.loc.length) K0) (cF_ : ¬ (a = e) → placesK s0.loc ρ ([].map (AObj.up ρ s0.loc.length)) fun loc' => s0.afterK loc' d0 ((bl false : TV).up ρ s0.loc.length) K0) : CallAt prog al0 s0 43 as0 d0 K0 :=
  callB ρ cok_ cn_ ca_ co_ cl_ (by rintro r os ⟨rfl, rfl⟩; by_cases hb : (a = e); rw [decide_eq_true hb]; exact cT_  hb ; rw [decide_eq_false hb]; exact cF_  hb )
theorem call_lqEntry {al0 : Lim} {s0 : St} {as0 : List Operand} {d0 : Option Tmp} {K0 : St → Prop} {a e : Entry} (ρ : List Sel) (cn_ : nodupB (keysOf ρ) = true) (ca_ : tvsLe ρ s0.loc.length (as0.map (ev s0)) [.a (eEntry a), .a (eEntry e)]) (co_ : locLe ρ s0.loc.length s0.loc s0.fz ρ []) (cl_ : limP al0 s0.loc ρ True) (cT_ : (a = e) → placesK s0.loc ρ ([].map (AObj.up ρ s0.loc.length)) fun loc' => s0.afterK loc' d0 ((bl true : TV).up ρ s0.loc.length) K0) (cF_ : ¬ (a = e) → placesK s0.loc ρ ([].map (AObj.up ρ s0.loc.length)) fun loc' => s0.afterK loc' d0 ((bl false : TV).up ρ s0.loc.length) K0) : CallAt prog al0 s0 43 as0 d0 K0 :=
  callx_lqEntry ρ (lqEntry_ok a e) cn_ ca_ co_ cl_ cT_ cF_
def plans32 : Plans := [(6, ⟨.take 0 false (.take 1 false (.take 2 false (.take 4 false (.take 5 false (.take 6 false (.take 3 true (.take 7 true (.alt 8 (.take 9 false .done) .done)))))))), [], []⟩)]
theorem plans32_ok : plansOk plans32 (bodyOf f32) = true := by kernel_rfl
theorem lqLog_ok (a e : List Entry) : CallOK prog 32 [lst 6 eEntry a, lst 6 eEntry e] [] (fun r os => os = [] ∧ r = bl (decide (a = e))) := by
  refine fn_ [] tab_ok hmo func32 rfl rfl plans32_ok rfl ?_
  repeat' ((conv => whnf); first | (refine And.intro ?_ ?_) | (intro _))
  all_goals (conv => whnf)
  · rename_i hne
    (apply ret_ []; apply retAt0 (r := bl _); exact rfl; refine ⟨rfl, congrArg bl ?_⟩)
    exact (decide_eq_false (fun h => hne (by rw [h]))).symm
  · rename_i hlen
    apply loop_ (fun i : Nat => i ≤ a.length ∧ a.length = e.length ∧ ∀ j, j < i → a.getD j default = e.getD j default) (fun i : Nat => (⟨27, [(0, lst 6 eEntry a), (1, lst 6 eEntry e), (5, int i)], [], []⟩ : St)) (fun i : Nat => a.length - i)
    · (apply to_ []; apply toAt_ [] 0; rotate_left 1; exact ⟨rfl, rfl, rfl, rfl, ⟨⟨rfl, rfl, fun _ _ => rfl⟩, ⟨rfl, rfl, fun _ _ => rfl⟩, rfl, trivial⟩, trivial⟩)
      exact ⟨Nat.zero_le _, by omega, fun j hj => absurd hj (Nat.not_lt_zero _)⟩
    · rintro i ⟨h1, h2, h3⟩
      repeat' ((conv => whnf); first | (refine And.intro ?_ ?_) | (intro _) | (apply call0_ (g := 43); refine call_lqEntry [] (a := a.getD i default) (e := e.getD i default) rfl ⟨⟨rfl, rfl, rfl, ⟨rfl, rfl, fun _ _ => rfl⟩, ⟨rfl, rfl, fun _ _ => rfl⟩, rfl, trivial⟩, ⟨rfl, rfl, rfl, ⟨rfl, rfl, fun _ _ => rfl⟩, ⟨rfl, rfl, fun _ _ => rfl⟩, rfl, trivial⟩, trivial⟩ trivial (by first | exact trivial | exact ⟨trivial, trivial⟩) ?_ ?_))
      all_goals (try simp only [Int.toNat_natCast] at *)
      all_goals first | omega | skip
      all_goals (conv => whnf)
      · rename_i heq
        (apply to_ []; apply toAt_ [] (i + 1); rotate_left 1; exact ⟨rfl, rfl, rfl, rfl, ⟨⟨rfl, rfl, fun _ _ => rfl⟩, ⟨rfl, rfl, fun _ _ => rfl⟩, rfl, trivial⟩, trivial⟩)
        refine ⟨⟨by omega, h2, fun j hj => ?_⟩, by omega⟩
        by_cases hji : j = i
        · rw [hji]; exact heq
        · exact h3 j (by omega)
      · rename_i hne
        (apply ret_ []; apply retAt0 (r := bl _); exact rfl; refine ⟨rfl, congrArg bl ?_⟩)
        exact (decide_eq_false (fun h => hne (by rw [h]))).symm
      · (apply ret_ []; apply retAt0 (r := bl _); exact rfl; refine ⟨rfl, congrArg bl ?_⟩)
        exact (decide_eq_true (list_ext h2 (fun j hj => h3 j (by omega)))).symm
theorem callx_lqLog {al0 : Lim} {s0 : St} {as0 : List Operand} {d0 : Option Tmp} {K0 : St → Prop} {a e : List Entry} (ρ : List Sel) (cok_ : CallOK prog 32 [lst 6 eEntry a, lst 6 eEntry e] [] (fun r os => os = [] ∧ r = bl (decide (a = e)))) (cn_ : nodupB (keysOf ρ) = true) (ca_ : tvsLe ρ s0.loc.length (as0.map (ev s0)) [lst 6 eEntry a, lst 6 eEntry e]) (co_ : locLe ρ s0.loc.length s0.loc s0.fz ρ []) (cl_ : limP al0 s0.loc ρ True) (cT_ : (a = e) → placesK s0.loc ρ ([].map (AObj.up ρ s0.loc.length)) fun loc' => s0.afterK loc' d0 ((bl true : TV).up ρ s0.loc.length) K0) (cF_ : ¬ (a = e) → placesK s0.loc ρ ([].map (AObj.up ρ s0.loc.length)) fun loc' => s0.afterK loc' d0 ((bl false : TV).up ρ s0.loc.length) K0) : CallAt prog al0 s0 32 as0 d0 K0 :=
  callB ρ cok_ cn_ ca_ co_ cl_ (by rintro r os ⟨rfl, rfl⟩; by_cases hb : (a = e); rw [decide_eq_true hb]; exact cT_  hb ; rw [decide_eq_false hb]; exact cF_  hb )
theorem call_lqLog {al0 : Lim} {s0 : St} {as0 : List Operand} {d0 : Option Tmp} {K0 : St → Prop} {a e : List Entry} (ρ : List Sel) (cn_ : nodupB (keysOf ρ) = true) (ca_ : tvsLe ρ s0.loc.length (as0.map (ev s0)) [lst 6 eEntry a, lst 6 eEntry e]) (co_ : locLe ρ s0.loc.length s0.loc s0.fz ρ []) (cl_ : limP al0 s0.loc ρ True) (cT_ : (a = e) → placesK s0.loc ρ ([].map (AObj.up ρ s0.loc.length)) fun loc' => s0.afterK loc' d0 ((bl true : TV).up ρ s0.loc.length) K0) (cF_ : ¬ (a = e) → placesK s0.loc ρ ([].map (AObj.up ρ s0.loc.length)) fun loc' => s0.afterK loc' d0 ((bl false : TV).up ρ s0.loc.length) K0) : CallAt prog al0 s0 32 as0 d0 K0 :=
  callx_lqLog ρ (lqLog_ok a e) cn_ ca_ co_ cl_ cT_ cF_
end Go.Proofs.AYT
