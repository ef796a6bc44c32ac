/- A symbolic executor over the model, plain words, and contracts of the program's functions, part 26. Conditions: as each theorem tells. -/
import Derived.Test.YteippbbcihgabaaBAyS46
import Derived.Test.YteippbbcihgabaaBAyQh
set_option linter.unusedVariables false
set_option linter.unusedSimpArgs false
set_option linter.unusedSectionVars false
namespace Go.Proofs.AYT
open Go Go.Proofs.AY Go.Proofs.Try
theorem l13Ahead2_ok (a e : Entry) : CallOK prog 51 [.a (eEntry a), .a (eEntry e)] [] (fun r os => os = [] ∧ r = bl (decide (aheadP a e))) := by
  refine fn_ (D := []) [] tab_ok hmo func51 rfl rfl rfl rfl ?_
  repeat' ((conv => whnf); first | (refine And.intro ?_ ?_) | (intro _))
  all_goals (apply ret_ []; apply retAt0 (r := bl _); exact rfl; refine ⟨rfl, congrArg bl ?_⟩)
  all_goals first | exact (decide_eq_true (by omega)).symm | exact (decide_eq_false (by omega)).symm
theorem callx_l13Ahead2 {al0 : Lim} {s0 : St} {as0 : List Operand} {d0 : Option Tmp} {K0 : St → Prop} {a e : Entry} (ρ : List Sel) (cok_ : CallOK prog 51 [.a (eEntry a), .a (eEntry e)] [] (fun r os => os = [] ∧ r = bl (decide (aheadP a e)))) (cn_ : nodupB (keysOf ρ) = true) (ca_ : tvsLe ρ s0.loc.length (as0.map (ev s0)) [.a (eEntry a), .a (eEntry e)]) (co_ : locLe ρ s0.loc.length s0.loc s0.fz ρ []) (cl_ : limP al0 s0.loc ρ True) (cT_ : (aheadP a e) → placesK s0.loc ρ ([].map (AObj.up ρ s0.loc.length)) fun loc' => s0.afterK loc' d0 ((bl true : TV).up ρ s0.loc.length) K0) (cF_ : ¬ (aheadP a e) → placesK s0.loc ρ ([].map (AObj.up ρ s0.loc.length)) fun loc' => s0.afterK loc' d0 ((bl false : TV).up ρ s0.loc.length) K0) : CallAt prog al0 s0 51 as0 d0 K0 :=
  callB ρ cok_ cn_ ca_ co_ cl_ (by rintro r os ⟨rfl, rfl⟩; by_cases hb : (aheadP a e); rw [decide_eq_true hb]; exact cT_  hb ; rw [decide_eq_false hb]; exact cF_  hb )
theorem call_l13Ahead2 {al0 : Lim} {s0 : St} {as0 : List Operand} {d0 : Option Tmp} {K0 : St → Prop} {a e : Entry} (ρ : List Sel) (cn_ : nodupB (keysOf ρ) = true) (ca_ : tvsLe ρ s0.loc.length (as0.map (ev s0)) [.a (eEntry a), .a (eEntry e)]) (co_ : locLe ρ s0.loc.length s0.loc s0.fz ρ []) (cl_ : limP al0 s0.loc ρ True) (cT_ : (aheadP a e) → placesK s0.loc ρ ([].map (AObj.up ρ s0.loc.length)) fun loc' => s0.afterK loc' d0 ((bl true : TV).up ρ s0.loc.length) K0) (cF_ : ¬ (aheadP a e) → placesK s0.loc ρ ([].map (AObj.up ρ s0.loc.length)) fun loc' => s0.afterK loc' d0 ((bl false : TV).up ρ s0.loc.length) K0) : CallAt prog al0 s0 51 as0 d0 K0 :=
  callx_l13Ahead2 ρ (l13Ahead2_ok a e) cn_ ca_ co_ cl_ cT_ cF_
def plans39 : Plans := [(6, ⟨.take 0 false (.take 1 false (.take 2 false (.take 3 false (.take 4 false (.take 5 false (.take 7 false (.take 8 false (.take 9 false (.take 10 false (.take 6 true (.take 11 true (.alt 12 (.take 13 false .done) .done)))))))))))), [], []⟩),
  (8, ⟨.take 1 false (.take 2 false (.take 5 false (.take 6 false (.take 7 false (.alt 0 (.alt 3 (.alt 4 (.take 8 true (.alt 9 (.alt 10 (.alt 11 (.take 12 false .done) .done) .done) .done)) (.alt 8 (.alt 4 (.alt 9 (.alt 10 (.alt 11 (.take 12 false .done) .done) .done) .done) .done) .done)) (.alt 8 (.alt 3 (.alt 4 (.alt 9 (.alt 10 (.alt 11 (.take 12 false .done) .done) .done) .done) .done) .done) .done)) (.alt 3 (.alt 0 (.alt 4 (.take 8 true (.alt 9 (.alt 10 (.alt 11 (.take 12 false .done) .done) .done) .done)) (.alt 8 (.alt 4 (.alt 9 (.alt 10 (.alt 11 (.take 12 false .done) .done) .done) .done) .done) .done)) (.alt 8 (.alt 0 (.alt 4 (.alt 9 (.alt 10 (.alt 11 (.take 12 false .done) .done) .done) .done) .done) .done) .done)) (.alt 8 (.alt 0 (.alt 3 (.alt 4 (.alt 9 (.alt 10 (.alt 11 (.take 12 false .done) .done) .done) .done) .done) .done) (.alt 3 (.alt 0 (.alt 4 (.alt 9 (.alt 10 (.alt 11 (.take 12 false .done) .done) .done) .done) .done) .done) .done)) .done))))))), [4, 11], []⟩)]
theorem plans39_ok : plansOk plans39 (bodyOf f39) = true := by kernel_rfl
theorem sLogOrder_ok (L : List Entry) (hl : L.length ≤ 1000000000) (hs : ∀ x ∈ L, smallE x) : CallOK prog 39 [lst 6 eEntry L] [] (fun r os => os = [] ∧ r = lst 6 eEntry (orderF L)) := by
  refine fn_ [8] tab_ok hmo func39 rfl rfl plans39_ok rfl ?_
  repeat' ((conv => whnf); first | (refine And.intro ?_ ?_) | (intro _))
  apply loop_ (fun ((i, O) : (Nat) × (List Entry)) => i ≤ L.length ∧ O = orderF (L.take i)) (fun ((i, O) : (Nat) × (List Entry)) => (⟨50, [(0, lst 6 eEntry L), (3, lst 6 eEntry O), (4, int i)], [], []⟩ : St)) (fun ((i, O) : (Nat) × (List Entry)) => L.length - i)
  · apply to_ [0]
    refine And.intro (fun j hj => absurd hj (Nat.not_lt_zero _)) ?_
    apply toAt_ [] (0, []); rotate_left 1
    exact ⟨rfl, rfl, rfl, rfl, ⟨⟨rfl, rfl, fun _ _ => rfl⟩, ⟨rfl, rfl, fun j hj => absurd hj (Nat.not_lt_zero _)⟩, rfl, trivial⟩, trivial⟩
    exact ⟨Nat.zero_le _, rfl⟩
  · rintro ⟨i, O⟩ ⟨h1, h2⟩
    have hO : O.length = i := by rw [h2, orderF_len, List.length_take]; omega
    have hsi : i < L.length → smallE (L.getD i default) := fun h => hs _ (getD_mem default h)
    repeat' ((conv => whnf); first | (refine And.intro ?_ ?_) | (intro _))
    all_goals (try simp only [Int.toNat_natCast] at *)
    all_goals first | omega | skip
    all_goals (conv => whnf)
    · apply cut_ (fun k : Nat => i < L.length ∧ k ≤ O.length ∧ k = insAt (L.getD i default) O O.length) (fun k : Nat => (⟨50, [(0, lst 6 eEntry L), (3, lst 6 eEntry O), (4, int i), (5, int k)], [], []⟩ : St))
      · repeat' ((conv => whnf); first | (refine And.intro ?_ ?_) | (intro _))
        apply loop_ (fun k : Nat => i < L.length ∧ k ≤ O.length ∧ insAt (L.getD i default) O k = insAt (L.getD i default) O O.length) (fun k : Nat => (⟨50, [(0, lst 6 eEntry L), (3, lst 6 eEntry O), (4, int i), (5, int k)], [], []⟩ : St)) (fun k : Nat => k)
        · (apply to_ []; apply toAt_ [] O.length; rotate_left 1; exact ⟨rfl, rfl, rfl, rfl, ⟨⟨rfl, rfl, fun _ _ => rfl⟩, ⟨rfl, rfl, fun _ _ => rfl⟩, rfl, rfl, trivial⟩, trivial⟩)
          exact ⟨by omega, Nat.le_refl _, rfl⟩
        · rintro k ⟨g0, g1, g2⟩
          rcases k with _ | k
          · repeat' ((conv => whnf); first | (refine And.intro ?_ ?_) | (intro _))
            all_goals first | omega | skip
            (conv => whnf)
            (apply to_ []; apply toAt_ [] 0; rotate_left 1; exact ⟨rfl, rfl, rfl, rfl, ⟨⟨rfl, rfl, fun _ _ => rfl⟩, ⟨rfl, rfl, fun _ _ => rfl⟩, rfl, rfl, trivial⟩, trivial⟩)
            exact ⟨g0, Nat.zero_le _, g2⟩
          · have hk1 : (((k + 1 : Nat) : Int) - 1).toNat = k := by omega
            have hins : insAt (L.getD i default) O (k + 1) = if aheadP (L.getD i default) (O.getD k default) then insAt (L.getD i default) O k else k + 1 := rfl
            repeat' ((conv => whnf); first | (refine And.intro ?_ ?_) | (intro _) | (apply call0_ (g := 51); refine call_l13Ahead2 [] (a := L.getD i default) (e := O.getD (((k + 1 : Nat) : Int) - 1).toNat default) rfl ⟨⟨rfl, rfl, rfl, ⟨rfl, rfl, fun _ _ => rfl⟩, ⟨rfl, rfl, fun _ _ => rfl⟩, rfl, trivial⟩, ⟨rfl, rfl, rfl, ⟨rfl, rfl, fun _ _ => rfl⟩, ⟨rfl, rfl, fun _ _ => rfl⟩, rfl, trivial⟩, trivial⟩ trivial (by first | exact trivial | exact ⟨trivial, trivial⟩) ?_ ?_))
            all_goals first | omega | skip
            all_goals (conv => whnf)
            · rename_i hah
              rw [hk1] at hah
              apply to_ []; apply toAt_ [] k; rotate_left 1
              exact ⟨rfl, rfl, rfl, rfl, ⟨⟨rfl, rfl, fun _ _ => rfl⟩, ⟨rfl, rfl, fun _ _ => rfl⟩, rfl, leI (by omega) rfl, trivial⟩, trivial⟩
              exact ⟨⟨g0, by omega, by rw [← g2, hins, if_pos hah]⟩, by omega⟩
            · rename_i hah
              rw [hk1] at hah
              (apply to_ []; apply toAt_ [] (k + 1); rotate_left 1; exact ⟨rfl, rfl, rfl, rfl, ⟨⟨rfl, rfl, fun _ _ => rfl⟩, ⟨rfl, rfl, fun _ _ => rfl⟩, rfl, rfl, trivial⟩, trivial⟩)
              exact ⟨g0, g1, by rw [← g2, hins, if_neg hah]⟩
      · rintro k ⟨g0, g1, g2⟩
        have hsI := hsi g0
        have hlen : 0 + (k - 0) + 1 + (O.length - k) = (insE O (L.getD i default)).length := by rw [insE_len]; omega
        repeat' ((conv => whnf); first | (refine And.intro ?_ ?_) | (intro _) | (apply call0_ (g := 62); refine call_l13Entry [] (e := L.getD i default) hsI rfl ⟨⟨rfl, rfl, rfl, ⟨rfl, rfl, fun _ _ => rfl⟩, ⟨rfl, rfl, fun _ _ => rfl⟩, rfl, trivial⟩, trivial⟩ trivial (by first | exact trivial | exact ⟨trivial, trivial⟩) ?_))
        all_goals (try simp only [Int.toNat_natCast] at *)
        all_goals first | omega | (simp only [ti40]; omega) | skip
        all_goals
          (try (conv => whnf))
          apply to_ [.to 4 (fun j => eEntry ((insE O (L.getD i default)).getD j default))]
          refine And.intro (fun j hj => ?_) (And.intro (fun j hj => ?_) ?_)
          · exact (congrArg (fun l => l.all CV.immB) (insF g2 (fun _ => rfl) j hj)).trans rfl
          · exact ims_of (insF g2 (fun _ => rfl) j hj)
          apply toAt_ [] (i + 1, insE O (L.getD i default)); rotate_left 1
          exact ⟨rfl, rfl, rfl, rfl, ⟨⟨rfl, rfl, fun _ _ => rfl⟩, ⟨rfl, hlen, fun _ _ => rfl⟩, rfl, trivial⟩, trivial⟩
          exact ⟨⟨by omega, by (try simp only); rw [orderF_snoc g0, ← h2]⟩, by (try simp only); omega⟩
    · have e : O = orderF L := by rw [h2, List.take_of_length_le (by omega)]
      rw [← e]
      apply ret_ []
      apply retAt0 (r := lst 6 eEntry O)
      · exact ⟨rfl, rfl, fun _ _ => rfl⟩
      · exact ⟨rfl, rfl⟩
theorem callx_sLogOrder {al0 : Lim} {s0 : St} {as0 : List Operand} {d0 : Option Tmp} {K0 : St → Prop} {L : List Entry} (ρ : List Sel) (cok_ : CallOK prog 39 [lst 6 eEntry L] [] (fun r os => os = [] ∧ r = lst 6 eEntry (orderF L))) (cn_ : nodupB (keysOf ρ) = true) (ca_ : tvsLe ρ s0.loc.length (as0.map (ev s0)) [lst 6 eEntry L]) (co_ : locLe ρ s0.loc.length s0.loc s0.fz ρ []) (cl_ : limP al0 s0.loc ρ True) (ck_ : placesK s0.loc ρ ([].map (AObj.up ρ s0.loc.length)) fun loc' => s0.afterK loc' d0 ((lst 6 eEntry (orderF L) : TV).up ρ s0.loc.length) K0) : CallAt prog al0 s0 39 as0 d0 K0 :=
  callB ρ cok_ cn_ ca_ co_ cl_ (by rintro r os ⟨rfl, rfl⟩; exact ck_ )
theorem call_sLogOrder {al0 : Lim} {s0 : St} {as0 : List Operand} {d0 : Option Tmp} {K0 : St → Prop} {L : List Entry} (ρ : List Sel) (hl : L.length ≤ 1000000000) (hs : ∀ x ∈ L, smallE x) (cn_ : nodupB (keysOf ρ) = true) (ca_ : tvsLe ρ s0.loc.length (as0.map (ev s0)) [lst 6 eEntry L]) (co_ : locLe ρ s0.loc.length s0.loc s0.fz ρ []) (cl_ : limP al0 s0.loc ρ True) (ck_ : placesK s0.loc ρ ([].map (AObj.up ρ s0.loc.length)) fun loc' => s0.afterK loc' d0 ((lst 6 eEntry (orderF L) : TV).up ρ s0.loc.length) K0) : CallAt prog al0 s0 39 as0 d0 K0 :=
  callx_sLogOrder ρ (sLogOrder_ok L hl hs) cn_ ca_ co_ cl_ ck_
end Go.Proofs.AYT
