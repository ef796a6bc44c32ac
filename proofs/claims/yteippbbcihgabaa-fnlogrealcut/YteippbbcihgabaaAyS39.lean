/- A symbolic executor over the model, plain words, and contracts of the program's functions, part 18. Conditions: as each theorem tells. -/
import Derived.Test.YteippbbcihgabaaAy16
import Derived.Test.YteippbbcihgabaaAyQd
set_option linter.unusedVariables false
set_option linter.unusedSimpArgs false
set_option linter.unusedSectionVars false
namespace Go.Proofs.AYT
open Go Go.Proofs.AY Go.Proofs.Try
theorem DrawLogOrder_ok (n : Nat) (b : Nat → Int) (hb : ∀ i, 0 ≤ b i ∧ b i < 256) : CallOK prog 37 [bytes n b] [] (fun r os => ∃ (P : DProg) (L : List Entry), os = [] ∧ r = lst 6 eEntry L ∧ (logP P L)) := by
  refine fn_ (D := []) [] tab_ok hmo func37 rfl rfl rfl rfl ?_
  repeat' ((conv => whnf); first | (refine And.intro ?_ ?_) | (intro _) | (apply call0_ (g := 49); refine call_l6Open [] hb rfl ⟨⟨rfl, rfl, fun _ _ => rfl⟩, trivial⟩ trivial (by first | exact trivial | exact ⟨trivial, trivial⟩) ?_) | (apply call0_ (g := 60); refine call_l71Log [.all 0] (by omega) rfl ⟨rfl, trivial⟩ ⟨⟨trivial, rfl, ⟨rfl, rfl, fun _ _ => rfl⟩, rfl, trivial⟩, trivial⟩ (by first | exact trivial | exact ⟨⟨rfl, Nat.le_refl _, trivial⟩, trivial⟩ | exact ⟨⟨rfl, trivial, trivial⟩, trivial⟩) ?_))
  rename_i R q' P L hq hL
  conv => whnf
  apply ret_ []
  apply retAt0 (r := lst 6 eEntry L)
  · exact ⟨rfl, rfl, fun _ _ => rfl⟩
  · exact ⟨P, L, rfl, rfl, hL⟩
theorem callx_DrawLogOrder {al0 : Lim} {s0 : St} {as0 : List Operand} {d0 : Option Tmp} {K0 : St → Prop} {n : Nat} {b : Nat → Int} (ρ : List Sel) (cok_ : CallOK prog 37 [bytes n b] [] (fun r os => ∃ (P : DProg) (L : List Entry), os = [] ∧ r = lst 6 eEntry L ∧ (logP P L))) (cn_ : nodupB (keysOf ρ) = true) (ca_ : tvsLe ρ s0.loc.length (as0.map (ev s0)) [bytes n b]) (co_ : locLe ρ s0.loc.length s0.loc s0.fz ρ []) (cl_ : limP al0 s0.loc ρ True) (ck_ : ∀ (P : DProg) (L : List Entry), (logP P L) → placesK s0.loc ρ ([].map (AObj.up ρ s0.loc.length)) fun loc' => s0.afterK loc' d0 ((lst 6 eEntry L : TV).up ρ s0.loc.length) K0) : CallAt prog al0 s0 37 as0 d0 K0 :=
  callB ρ cok_ cn_ ca_ co_ cl_ (by rintro r os ⟨P, L, rfl, rfl, hf0⟩; exact ck_ P L hf0)
theorem call_DrawLogOrder {al0 : Lim} {s0 : St} {as0 : List Operand} {d0 : Option Tmp} {K0 : St → Prop} {n : Nat} {b : Nat → Int} (ρ : List Sel) (hb : ∀ i, 0 ≤ b i ∧ b i < 256) (cn_ : nodupB (keysOf ρ) = true) (ca_ : tvsLe ρ s0.loc.length (as0.map (ev s0)) [bytes n b]) (co_ : locLe ρ s0.loc.length s0.loc s0.fz ρ []) (cl_ : limP al0 s0.loc ρ True) (ck_ : ∀ (P : DProg) (L : List Entry), (logP P L) → placesK s0.loc ρ ([].map (AObj.up ρ s0.loc.length)) fun loc' => s0.afterK loc' d0 ((lst 6 eEntry L : TV).up ρ s0.loc.length) K0) : CallAt prog al0 s0 37 as0 d0 K0 :=
  callx_DrawLogOrder ρ (DrawLogOrder_ok n b hb) cn_ ca_ co_ cl_ ck_
theorem DrawLogReal_ok (n : Nat) (b : Nat → Int) (hb : ∀ i, 0 ≤ b i ∧ b i < 256) : CallOK prog 21 [bytes n b] [] (fun r os => ∃ (P : DProg) (L : List Entry), os = [] ∧ r = lst 6 eEntry L ∧ (logP P L)) := by
  refine fn_ (D := []) [] tab_ok hmo func21 rfl rfl rfl rfl ?_
  repeat' ((conv => whnf); first | (refine And.intro ?_ ?_) | (intro _) | (apply call0_ (g := 37); refine call_DrawLogOrder [] hb rfl ⟨⟨rfl, rfl, fun _ _ => rfl⟩, trivial⟩ trivial (by first | exact trivial | exact ⟨trivial, trivial⟩) ?_))
  rename_i P L hL
  conv => whnf
  apply ret_ []
  apply retAt0 (r := lst 6 eEntry L)
  · exact ⟨rfl, rfl, fun _ _ => rfl⟩
  · exact ⟨P, L, rfl, rfl, hL⟩
theorem callx_DrawLogReal {al0 : Lim} {s0 : St} {as0 : List Operand} {d0 : Option Tmp} {K0 : St → Prop} {n : Nat} {b : Nat → Int} (ρ : List Sel) (cok_ : CallOK prog 21 [bytes n b] [] (fun r os => ∃ (P : DProg) (L : List Entry), os = [] ∧ r = lst 6 eEntry L ∧ (logP P L))) (cn_ : nodupB (keysOf ρ) = true) (ca_ : tvsLe ρ s0.loc.length (as0.map (ev s0)) [bytes n b]) (co_ : locLe ρ s0.loc.length s0.loc s0.fz ρ []) (cl_ : limP al0 s0.loc ρ True) (ck_ : ∀ (P : DProg) (L : List Entry), (logP P L) → placesK s0.loc ρ ([].map (AObj.up ρ s0.loc.length)) fun loc' => s0.afterK loc' d0 ((lst 6 eEntry L : TV).up ρ s0.loc.length) K0) : CallAt prog al0 s0 21 as0 d0 K0 :=
  callB ρ cok_ cn_ ca_ co_ cl_ (by rintro r os ⟨P, L, rfl, rfl, hf0⟩; exact ck_ P L hf0)
theorem call_DrawLogReal {al0 : Lim} {s0 : St} {as0 : List Operand} {d0 : Option Tmp} {K0 : St → Prop} {n : Nat} {b : Nat → Int} (ρ : List Sel) (hb : ∀ i, 0 ≤ b i ∧ b i < 256) (cn_ : nodupB (keysOf ρ) = true) (ca_ : tvsLe ρ s0.loc.length (as0.map (ev s0)) [bytes n b]) (co_ : locLe ρ s0.loc.length s0.loc s0.fz ρ []) (cl_ : limP al0 s0.loc ρ True) (ck_ : ∀ (P : DProg) (L : List Entry), (logP P L) → placesK s0.loc ρ ([].map (AObj.up ρ s0.loc.length)) fun loc' => s0.afterK loc' d0 ((lst 6 eEntry L : TV).up ρ s0.loc.length) K0) : CallAt prog al0 s0 21 as0 d0 K0 :=
  callx_DrawLogReal ρ (DrawLogReal_ok n b hb) cn_ ca_ co_ cl_ ck_
def plans50 : Plans := []
theorem plans50_ok : plansOk plans50 (bodyOf f50) = true := by kernel_rfl
theorem standsAhead_ok (a e : Entry) : CallOK prog 50 [.a (eEntry a), .a (eEntry e)] [] (fun r os => os = [] ∧ r = bl (decide (aheadP a e))) := by
  refine fn_ (D := []) [] tab_ok hmo func50 rfl rfl rfl rfl ?_
  repeat' ((conv => whnf); first | (refine And.intro ?_ ?_) | (intro _))
  all_goals (apply ret_ []; apply retAt0 (r := bl _); exact rfl; refine ⟨rfl, congrArg bl ?_⟩)
  all_goals first | exact (decide_eq_true (by omega)).symm | exact (decide_eq_false (by omega)).symm
theorem callx_standsAhead {al0 : Lim} {s0 : St} {as0 : List Operand} {d0 : Option Tmp} {K0 : St → Prop} {a e : Entry} (ρ : List Sel) (cok_ : CallOK prog 50 [.a (eEntry a), .a (eEntry e)] [] (fun r os => os = [] ∧ r = bl (decide (aheadP a e)))) (cn_ : nodupB (keysOf ρ) = true) (ca_ : tvsLe ρ s0.loc.length (as0.map (ev s0)) [.a (eEntry a), .a (eEntry e)]) (co_ : locLe ρ s0.loc.length s0.loc s0.fz ρ []) (cl_ : limP al0 s0.loc ρ True) (cT_ : (aheadP a e) → placesK s0.loc ρ ([].map (AObj.up ρ s0.loc.length)) fun loc' => s0.afterK loc' d0 ((bl true : TV).up ρ s0.loc.length) K0) (cF_ : ¬ (aheadP a e) → placesK s0.loc ρ ([].map (AObj.up ρ s0.loc.length)) fun loc' => s0.afterK loc' d0 ((bl false : TV).up ρ s0.loc.length) K0) : CallAt prog al0 s0 50 as0 d0 K0 :=
  callB ρ cok_ cn_ ca_ co_ cl_ (by rintro r os ⟨rfl, rfl⟩; by_cases hb : (aheadP a e); rw [decide_eq_true hb]; exact cT_  hb ; rw [decide_eq_false hb]; exact cF_  hb )
theorem call_standsAhead {al0 : Lim} {s0 : St} {as0 : List Operand} {d0 : Option Tmp} {K0 : St → Prop} {a e : Entry} (ρ : List Sel) (cn_ : nodupB (keysOf ρ) = true) (ca_ : tvsLe ρ s0.loc.length (as0.map (ev s0)) [.a (eEntry a), .a (eEntry e)]) (co_ : locLe ρ s0.loc.length s0.loc s0.fz ρ []) (cl_ : limP al0 s0.loc ρ True) (cT_ : (aheadP a e) → placesK s0.loc ρ ([].map (AObj.up ρ s0.loc.length)) fun loc' => s0.afterK loc' d0 ((bl true : TV).up ρ s0.loc.length) K0) (cF_ : ¬ (aheadP a e) → placesK s0.loc ρ ([].map (AObj.up ρ s0.loc.length)) fun loc' => s0.afterK loc' d0 ((bl false : TV).up ρ s0.loc.length) K0) : CallAt prog al0 s0 50 as0 d0 K0 :=
  callx_standsAhead ρ (standsAhead_ok a e) cn_ ca_ co_ cl_ cT_ cF_
theorem l13Ahead_ok (a e : Entry) : CallOK prog 51 [.a (eEntry a), .a (eEntry e)] [] (fun r os => os = [] ∧ r = bl (decide (aheadP a e))) := by
  refine fn_ (D := []) [] tab_ok hmo func51 rfl rfl rfl rfl ?_
  repeat' ((conv => whnf); first | (refine And.intro ?_ ?_) | (intro _))
  all_goals (apply ret_ []; apply retAt0 (r := bl _); exact rfl; refine ⟨rfl, congrArg bl ?_⟩)
  all_goals first | exact (decide_eq_true (by omega)).symm | exact (decide_eq_false (by omega)).symm
theorem callx_l13Ahead {al0 : Lim} {s0 : St} {as0 : List Operand} {d0 : Option Tmp} {K0 : St → Prop} {a e : Entry} (ρ : List Sel) (cok_ : CallOK prog 51 [.a (eEntry a), .a (eEntry e)] [] (fun r os => os = [] ∧ r = bl (decide (aheadP a e)))) (cn_ : nodupB (keysOf ρ) = true) (ca_ : tvsLe ρ s0.loc.length (as0.map (ev s0)) [.a (eEntry a), .a (eEntry e)]) (co_ : locLe ρ s0.loc.length s0.loc s0.fz ρ []) (cl_ : limP al0 s0.loc ρ True) (cT_ : (aheadP a e) → placesK s0.loc ρ ([].map (AObj.up ρ s0.loc.length)) fun loc' => s0.afterK loc' d0 ((bl true : TV).up ρ s0.loc.length) K0) (cF_ : ¬ (aheadP a e) → placesK s0.loc ρ ([].map (AObj.up ρ s0.loc.length)) fun loc' => s0.afterK loc' d0 ((bl false : TV).up ρ s0.loc.length) K0) : CallAt prog al0 s0 51 as0 d0 K0 :=
  callB ρ cok_ cn_ ca_ co_ cl_ (by rintro r os ⟨rfl, rfl⟩; by_cases hb : (aheadP a e); rw [decide_eq_true hb]; exact cT_  hb ; rw [decide_eq_false hb]; exact cF_  hb )
theorem call_l13Ahead {al0 : Lim} {s0 : St} {as0 : List Operand} {d0 : Option Tmp} {K0 : St → Prop} {a e : Entry} (ρ : List Sel) (cn_ : nodupB (keysOf ρ) = true) (ca_ : tvsLe ρ s0.loc.length (as0.map (ev s0)) [.a (eEntry a), .a (eEntry e)]) (co_ : locLe ρ s0.loc.length s0.loc s0.fz ρ []) (cl_ : limP al0 s0.loc ρ True) (cT_ : (aheadP a e) → placesK s0.loc ρ ([].map (AObj.up ρ s0.loc.length)) fun loc' => s0.afterK loc' d0 ((bl true : TV).up ρ s0.loc.length) K0) (cF_ : ¬ (aheadP a e) → placesK s0.loc ρ ([].map (AObj.up ρ s0.loc.length)) fun loc' => s0.afterK loc' d0 ((bl false : TV).up ρ s0.loc.length) K0) : CallAt prog al0 s0 51 as0 d0 K0 :=
  callx_l13Ahead ρ (l13Ahead_ok a e) cn_ ca_ co_ cl_ cT_ cF_
theorem lqAhead_ok (a e : Entry) : CallOK prog 24 [.a (eEntry a), .a (eEntry e)] [] (fun r os => os = [] ∧ r = bl (decide (aheadP a e))) := by
  refine fn_ (D := []) [] tab_ok hmo func24 rfl rfl rfl rfl ?_
  repeat' ((conv => whnf); first | (refine And.intro ?_ ?_) | (intro _))
  all_goals (apply ret_ []; apply retAt0 (r := bl _); exact rfl; refine ⟨rfl, congrArg bl ?_⟩)
  all_goals first | exact (decide_eq_true (by omega)).symm | exact (decide_eq_false (by omega)).symm
theorem callx_lqAhead {al0 : Lim} {s0 : St} {as0 : List Operand} {d0 : Option Tmp} {K0 : St → Prop} {a e : Entry} (ρ : List Sel) (cok_ : CallOK prog 24 [.a (eEntry a), .a (eEntry e)] [] (fun r os => os = [] ∧ r = bl (decide (aheadP a e)))) (cn_ : nodupB (keysOf ρ) = true) (ca_ : tvsLe ρ s0.loc.length (as0.map (ev s0)) [.a (eEntry a), .a (eEntry e)]) (co_ : locLe ρ s0.loc.length s0.loc s0.fz ρ []) (cl_ : limP al0 s0.loc ρ True) (cT_ : (aheadP a e) → placesK s0.loc ρ ([].map (AObj.up ρ s0.loc.length)) fun loc' => s0.afterK loc' d0 ((bl true : TV).up ρ s0.loc.length) K0) (cF_ : ¬ (aheadP a e) → placesK s0.loc ρ ([].map (AObj.up ρ s0.loc.length)) fun loc' => s0.afterK loc' d0 ((bl false : TV).up ρ s0.loc.length) K0) : CallAt prog al0 s0 24 as0 d0 K0 :=
  callB ρ cok_ cn_ ca_ co_ cl_ (by rintro r os ⟨rfl, rfl⟩; by_cases hb : (aheadP a e); rw [decide_eq_true hb]; exact cT_  hb ; rw [decide_eq_false hb]; exact cF_  hb )
theorem call_lqAhead {al0 : Lim} {s0 : St} {as0 : List Operand} {d0 : Option Tmp} {K0 : St → Prop} {a e : Entry} (ρ : List Sel) (cn_ : nodupB (keysOf ρ) = true) (ca_ : tvsLe ρ s0.loc.length (as0.map (ev s0)) [.a (eEntry a), .a (eEntry e)]) (co_ : locLe ρ s0.loc.length s0.loc s0.fz ρ []) (cl_ : limP al0 s0.loc ρ True) (cT_ : (aheadP a e) → placesK s0.loc ρ ([].map (AObj.up ρ s0.loc.length)) fun loc' => s0.afterK loc' d0 ((bl true : TV).up ρ s0.loc.length) K0) (cF_ : ¬ (aheadP a e) → placesK s0.loc ρ ([].map (AObj.up ρ s0.loc.length)) fun loc' => s0.afterK loc' d0 ((bl false : TV).up ρ s0.loc.length) K0) : CallAt prog al0 s0 24 as0 d0 K0 :=
  callx_lqAhead ρ (lqAhead_ok a e) cn_ ca_ co_ cl_ cT_ cF_
def plans22 : Plans := [(7, ⟨.take 1 false (.take 2 false (.take 3 false (.take 0 true (.take 4 true (.alt 5 .done .done))))), [], []⟩)]
theorem plans22_ok : plansOk plans22 (bodyOf f22) = true := by kernel_rfl
theorem iLogReal_ok (L : List Entry) : CallOK prog 22 [lst 6 eEntry L] [] (fun r os => os = [] ∧ r = bl (realB L)) := by
  refine fn_ [] tab_ok hmo func22 rfl rfl plans22_ok rfl ?_
  repeat' ((conv => whnf); first | (refine And.intro ?_ ?_) | (intro _))
  apply loop_ (fun i : Nat => i ≤ L.length ∧ upTo (realI L) i) (fun i : Nat => (⟨31, [(0, lst 6 eEntry L), (6, lst 6 eEntry L), (7, int L.length), (8, int i)], [], []⟩ : St)) (fun i : Nat => L.length - i)
  · (apply to_ []; apply toAt_ [] 0; rotate_left 1; exact ⟨rfl, rfl, rfl, rfl, ⟨⟨rfl, rfl, fun _ _ => rfl⟩, ⟨rfl, rfl, fun _ _ => rfl⟩, rfl, rfl, trivial⟩, trivial⟩)
    exact ⟨Nat.zero_le _, upTo_zero _⟩
  · rintro i ⟨h1, h2⟩
    repeat' ((conv => whnf); first | (refine And.intro ?_ ?_) | (intro _))
    all_goals (try simp only [Int.toNat_natCast] at *)
    all_goals first | omega | skip
    · conv => whnf
      apply loop_ (fun j : Nat => j ≤ i ∧ upTo (realAt L i) j) (fun j : Nat => (⟨31, [(0, lst 6 eEntry L), (3, int i), (4, ptr 0), (5, int j), (6, lst 6 eEntry L), (7, int L.length), (8, int i)], [.box 40 (eEntry (L.getD i default))], []⟩ : St)) (fun j : Nat => i - j)
      · (apply to_ []; apply toAt_ [.all 0] 0; rotate_left 1; exact ⟨rfl, rfl, rfl, rfl, ⟨⟨rfl, rfl, fun _ _ => rfl⟩, rfl, rfl, rfl, ⟨rfl, rfl, fun _ _ => rfl⟩, rfl, rfl, trivial⟩, ⟨trivial, rfl, rfl, rfl, rfl, ⟨rfl, rfl, fun _ _ => rfl⟩, ⟨rfl, rfl, fun _ _ => rfl⟩, rfl, trivial⟩, trivial⟩)
        exact ⟨Nat.zero_le _, upTo_zero _⟩
      · rintro j ⟨g1, g2⟩
        repeat' ((conv => whnf); first | (refine And.intro ?_ ?_) | (intro _) | (apply call0_ (g := 50); refine call_standsAhead [] (a := L.getD i default) (e := L.getD j default) rfl ⟨⟨rfl, rfl, rfl, ⟨rfl, rfl, fun _ _ => rfl⟩, ⟨rfl, rfl, fun _ _ => rfl⟩, rfl, trivial⟩, ⟨rfl, rfl, rfl, ⟨rfl, rfl, fun _ _ => rfl⟩, ⟨rfl, rfl, fun _ _ => rfl⟩, rfl, trivial⟩, trivial⟩ trivial (by first | exact trivial | exact ⟨trivial, trivial⟩) ?_ ?_))
        all_goals (try simp only [Int.toNat_natCast] at *)
        all_goals first | omega | skip
        all_goals (conv => whnf)
        · rename_i hj hf hah
          (apply ret_ []; apply retAt0 (r := bl _); exact rfl; refine ⟨rfl, congrArg bl ?_⟩)
          have e1 : realAt L i j = false := realAt_yes (by omega) hah
          have e2 : realI L i = false := allTo_not (by omega) e1
          exact (allTo_not (by omega) e2).symm
        · rename_i hj hf hah
          (apply to_ []; apply toAt_ [.all 0] (j + 1); rotate_left 1; exact ⟨rfl, rfl, rfl, rfl, ⟨⟨rfl, rfl, fun _ _ => rfl⟩, rfl, rfl, rfl, ⟨rfl, rfl, fun _ _ => rfl⟩, rfl, rfl, trivial⟩, ⟨trivial, rfl, rfl, rfl, rfl, ⟨rfl, rfl, fun _ _ => rfl⟩, ⟨rfl, rfl, fun _ _ => rfl⟩, rfl, trivial⟩, trivial⟩)
          exact ⟨⟨by omega, upTo_succ g2 (realAt_no hah)⟩, by omega⟩
        all_goals
          (apply to_ []; apply toAt_ [] (i + 1); rotate_left 1; exact ⟨rfl, rfl, rfl, rfl, ⟨⟨rfl, rfl, fun _ _ => rfl⟩, ⟨rfl, rfl, fun _ _ => rfl⟩, rfl, rfl, trivial⟩, trivial⟩)
          refine ⟨⟨by omega, upTo_succ h2 ?_⟩, by omega⟩
        · exact allTo_of (upTo_far g2 (by omega))
        · have : j = i := by omega
          subst this
          exact allTo_of g2
    · (apply ret_ []; apply retAt0 (r := bl _); exact rfl; refine ⟨rfl, congrArg bl ?_⟩)
      exact (allTo_of (fun k hk => h2 k (by omega))).symm
theorem callx_iLogReal {al0 : Lim} {s0 : St} {as0 : List Operand} {d0 : Option Tmp} {K0 : St → Prop} {L : List Entry} (ρ : List Sel) (cok_ : CallOK prog 22 [lst 6 eEntry L] [] (fun r os => os = [] ∧ r = bl (realB L))) (cn_ : nodupB (keysOf ρ) = true) (ca_ : tvsLe ρ s0.loc.length (as0.map (ev s0)) [lst 6 eEntry L]) (co_ : locLe ρ s0.loc.length s0.loc s0.fz ρ []) (cl_ : limP al0 s0.loc ρ True) (cT_ : (realB L) = true → placesK s0.loc ρ ([].map (AObj.up ρ s0.loc.length)) fun loc' => s0.afterK loc' d0 ((bl true : TV).up ρ s0.loc.length) K0) (cF_ : (realB L) = false → placesK s0.loc ρ ([].map (AObj.up ρ s0.loc.length)) fun loc' => s0.afterK loc' d0 ((bl false : TV).up ρ s0.loc.length) K0) : CallAt prog al0 s0 22 as0 d0 K0 :=
  callB ρ cok_ cn_ ca_ co_ cl_ (by rintro r os ⟨rfl, rfl⟩; cases hb : (realB L) with | true => exact cT_  hb  | false => exact cF_  hb )
theorem call_iLogReal {al0 : Lim} {s0 : St} {as0 : List Operand} {d0 : Option Tmp} {K0 : St → Prop} {L : List Entry} (ρ : List Sel) (cn_ : nodupB (keysOf ρ) = true) (ca_ : tvsLe ρ s0.loc.length (as0.map (ev s0)) [lst 6 eEntry L]) (co_ : locLe ρ s0.loc.length s0.loc s0.fz ρ []) (cl_ : limP al0 s0.loc ρ True) (cT_ : (realB L) = true → placesK s0.loc ρ ([].map (AObj.up ρ s0.loc.length)) fun loc' => s0.afterK loc' d0 ((bl true : TV).up ρ s0.loc.length) K0) (cF_ : (realB L) = false → placesK s0.loc ρ ([].map (AObj.up ρ s0.loc.length)) fun loc' => s0.afterK loc' d0 ((bl false : TV).up ρ s0.loc.length) K0) : CallAt prog al0 s0 22 as0 d0 K0 :=
  callx_iLogReal ρ (iLogReal_ok L) cn_ ca_ co_ cl_ cT_ cF_
end Go.Proofs.AYT
