/- A symbolic executor over the model, plain words, and contracts of the program's functions, part 22. Conditions: as each theorem tells. -/
import Derived.Test.YteippbbcihgabaaAyB06
import Derived.Test.YteippbbcihgabaaBAyQg
set_option linter.unusedVariables false
set_option linter.unusedSimpArgs false
set_option linter.unusedSectionVars false
namespace Go.Proofs.AYT
open Go Go.Proofs.AY Go.Proofs.Try
theorem clonePut_ok (l : List Put) (hl : l.length ≤ 1099511627776) : CallOK prog 86 [lst 2 ePut l] [] (fun r os => os = [] ∧ r = lst 2 ePut l) := by
  refine fn_ (D := []) [] tab_ok hmo func86 rfl rfl rfl rfl ?_
  repeat' ((conv => whnf); first | (refine And.intro ?_ ?_) | (intro _))
  all_goals first | omega | (simp only [ti51]; omega) | skip
  all_goals (conv => whnf)
  · apply ret_ []
    apply retAt0 (r := lst 2 ePut l)
    · assumption
    · exact ⟨rfl, rfl⟩
  · apply ret_ [1]
    refine And.intro (fun _ _ => rfl) ?_
    apply retAt0 (r := lst 2 ePut l)
    · exact ⟨rfl, Nat.zero_add _, fun _ _ => rfl⟩
    · exact ⟨rfl, rfl⟩
theorem callx_clonePut {al0 : Lim} {s0 : St} {as0 : List Operand} {d0 : Option Tmp} {K0 : St → Prop} {l : List Put} (ρ : List Sel) (cok_ : CallOK prog 86 [lst 2 ePut l] [] (fun r os => os = [] ∧ r = lst 2 ePut l)) (cn_ : nodupB (keysOf ρ) = true) (ca_ : tvsLe ρ s0.loc.length (as0.map (ev s0)) [lst 2 ePut l]) (co_ : locLe ρ s0.loc.length s0.loc s0.fz ρ []) (cl_ : limP al0 s0.loc ρ True) (ck_ : placesK s0.loc ρ ([].map (AObj.up ρ s0.loc.length)) fun loc' => s0.afterK loc' d0 ((lst 2 ePut l : TV).up ρ s0.loc.length) K0) : CallAt prog al0 s0 86 as0 d0 K0 :=
  callB ρ cok_ cn_ ca_ co_ cl_ (by rintro r os ⟨rfl, rfl⟩; exact ck_ )
theorem call_clonePut {al0 : Lim} {s0 : St} {as0 : List Operand} {d0 : Option Tmp} {K0 : St → Prop} {l : List Put} (ρ : List Sel) (hl : l.length ≤ 1099511627776) (cn_ : nodupB (keysOf ρ) = true) (ca_ : tvsLe ρ s0.loc.length (as0.map (ev s0)) [lst 2 ePut l]) (co_ : locLe ρ s0.loc.length s0.loc s0.fz ρ []) (cl_ : limP al0 s0.loc ρ True) (ck_ : placesK s0.loc ρ ([].map (AObj.up ρ s0.loc.length)) fun loc' => s0.afterK loc' d0 ((lst 2 ePut l : TV).up ρ s0.loc.length) K0) : CallAt prog al0 s0 86 as0 d0 K0 :=
  callx_clonePut ρ (clonePut_ok l hl) cn_ ca_ co_ cl_ ck_
theorem cloneInt_ok (l : List Int) (hl : l.length ≤ 1099511627776) : CallOK prog 65 [lst 1 eI l] [] (fun r os => os = [rl 3 1 eI l] ∧ r = .c (.s ⟨0, 0⟩ l.length)) := by
  refine fn_ (D := []) [] tab_ok hmo func65 rfl rfl rfl rfl ?_
  repeat' ((conv => whnf); first | (refine And.intro ?_ ?_) | (intro _))
  all_goals first | omega | (simp only [ti3]; omega) | skip
  all_goals (conv => whnf)
  · rename_i h0
    apply ret_ []
    apply retAt_ [.nil] (.c (.s ⟨0, 0⟩ l.length)) [rl 3 1 eI l] rfl rfl
    · exact ⟨trivial, h0⟩
    · exact ⟨h0, trivial⟩
    · exact ⟨rfl, rfl⟩
  · apply ret_ []
    apply retAt_ [.all 1] (.c (.s ⟨0, 0⟩ l.length)) [rl 3 1 eI l] rfl rfl
    · exact congrArg (CV.s _) (Nat.zero_add _)
    · exact ⟨⟨trivial, rfl, rfl, Nat.zero_add _, fun _ _ => ⟨rfl, trivial⟩⟩, trivial⟩
    · exact ⟨rfl, rfl⟩
theorem callx_cloneInt {al0 : Lim} {s0 : St} {as0 : List Operand} {d0 : Option Tmp} {K0 : St → Prop} {l : List Int} (ρ : List Sel) (cok_ : CallOK prog 65 [lst 1 eI l] [] (fun r os => os = [rl 3 1 eI l] ∧ r = .c (.s ⟨0, 0⟩ l.length))) (cn_ : nodupB (keysOf ρ) = true) (ca_ : tvsLe ρ s0.loc.length (as0.map (ev s0)) [lst 1 eI l]) (co_ : locLe ρ s0.loc.length s0.loc s0.fz ρ []) (cl_ : limP al0 s0.loc ρ True) (ck_ : placesK s0.loc ρ ([rl 3 1 eI l].map (AObj.up ρ s0.loc.length)) fun loc' => s0.afterK loc' d0 ((.c (.s ⟨0, 0⟩ l.length) : TV).up ρ s0.loc.length) K0) : CallAt prog al0 s0 65 as0 d0 K0 :=
  callB ρ cok_ cn_ ca_ co_ cl_ (by rintro r os ⟨rfl, rfl⟩; exact ck_ )
theorem call_cloneInt {al0 : Lim} {s0 : St} {as0 : List Operand} {d0 : Option Tmp} {K0 : St → Prop} {l : List Int} (ρ : List Sel) (hl : l.length ≤ 1099511627776) (cn_ : nodupB (keysOf ρ) = true) (ca_ : tvsLe ρ s0.loc.length (as0.map (ev s0)) [lst 1 eI l]) (co_ : locLe ρ s0.loc.length s0.loc s0.fz ρ []) (cl_ : limP al0 s0.loc ρ True) (ck_ : placesK s0.loc ρ ([rl 3 1 eI l].map (AObj.up ρ s0.loc.length)) fun loc' => s0.afterK loc' d0 ((.c (.s ⟨0, 0⟩ l.length) : TV).up ρ s0.loc.length) K0) : CallAt prog al0 s0 65 as0 d0 K0 :=
  callx_cloneInt ρ (cloneInt_ok l hl) cn_ ca_ co_ cl_ ck_
theorem isPlace_ok (x n : Int) : CallOK prog 88 [int x, int n] [] (fun r os => os = [] ∧ r = bl (decide (0 ≤ x ∧ x ≤ n - 1))) := by
  refine fn_ (D := []) [] tab_ok hmo func88 rfl rfl rfl rfl ?_
  repeat' ((conv => whnf); first | (refine And.intro ?_ ?_) | (intro _))
  all_goals (apply ret_ []; apply retAt0 (r := bl _); exact rfl; refine ⟨rfl, congrArg bl ?_⟩)
  all_goals first | exact (decide_eq_true (by omega)).symm | exact (decide_eq_false (by omega)).symm
theorem callx_isPlace {al0 : Lim} {s0 : St} {as0 : List Operand} {d0 : Option Tmp} {K0 : St → Prop} {x n : Int} (ρ : List Sel) (cok_ : CallOK prog 88 [int x, int n] [] (fun r os => os = [] ∧ r = bl (decide (0 ≤ x ∧ x ≤ n - 1)))) (cn_ : nodupB (keysOf ρ) = true) (ca_ : tvsLe ρ s0.loc.length (as0.map (ev s0)) [int x, int n]) (co_ : locLe ρ s0.loc.length s0.loc s0.fz ρ []) (cl_ : limP al0 s0.loc ρ True) (cT_ : (0 ≤ x ∧ x ≤ n - 1) → placesK s0.loc ρ ([].map (AObj.up ρ s0.loc.length)) fun loc' => s0.afterK loc' d0 ((bl true : TV).up ρ s0.loc.length) K0) (cF_ : ¬ (0 ≤ x ∧ x ≤ n - 1) → placesK s0.loc ρ ([].map (AObj.up ρ s0.loc.length)) fun loc' => s0.afterK loc' d0 ((bl false : TV).up ρ s0.loc.length) K0) : CallAt prog al0 s0 88 as0 d0 K0 :=
  callB ρ cok_ cn_ ca_ co_ cl_ (by rintro r os ⟨rfl, rfl⟩; by_cases hb : (0 ≤ x ∧ x ≤ n - 1); rw [decide_eq_true hb]; exact cT_  hb ; rw [decide_eq_false hb]; exact cF_  hb )
theorem call_isPlace {al0 : Lim} {s0 : St} {as0 : List Operand} {d0 : Option Tmp} {K0 : St → Prop} {x n : Int} (ρ : List Sel) (cn_ : nodupB (keysOf ρ) = true) (ca_ : tvsLe ρ s0.loc.length (as0.map (ev s0)) [int x, int n]) (co_ : locLe ρ s0.loc.length s0.loc s0.fz ρ []) (cl_ : limP al0 s0.loc ρ True) (cT_ : (0 ≤ x ∧ x ≤ n - 1) → placesK s0.loc ρ ([].map (AObj.up ρ s0.loc.length)) fun loc' => s0.afterK loc' d0 ((bl true : TV).up ρ s0.loc.length) K0) (cF_ : ¬ (0 ≤ x ∧ x ≤ n - 1) → placesK s0.loc ρ ([].map (AObj.up ρ s0.loc.length)) fun loc' => s0.afterK loc' d0 ((bl false : TV).up ρ s0.loc.length) K0) : CallAt prog al0 s0 88 as0 d0 K0 :=
  callx_isPlace ρ (isPlace_ok x n) cn_ ca_ co_ cl_ cT_ cF_
def plans66 : Plans := [(4, ⟨.take 0 false (.take 2 false (.take 3 false (.take 1 true (.alt 4 (.take 5 false (.take 6 false (.take 7 false (.take 8 false (.take 12 false (.take 9 true (.take 10 false (.take 11 true (.take 13 true (.take 14 false (.take 15 false .done))))))))))) .done)))), [], []⟩)]
theorem plans66_ok : plansOk plans66 (bodyOf f66) = true := by kernel_rfl
theorem hasAll_ok (cs : List Int) (l : List Put) : CallOK prog 66 [.c (.s ⟨0, 0⟩ cs.length), lst 2 ePut l] [rl 3 1 eI cs] (fun r os => os = [rl 3 1 eI cs] ∧ r = bl (readsB cs l)) := by
  refine fn_ [] tab_ok hmo func66 rfl rfl plans66_ok rfl ?_
  repeat' ((conv => whnf); first | (refine And.intro ?_ ?_) | (intro _))
  apply loop_ (fun i : Nat => i ≤ l.length ∧ upTo (readI cs l) i) (fun i : Nat => (⟨30, [(0, .c (.s ⟨0, 0⟩ cs.length)), (7, lst 2 ePut l), (8, int l.length), (9, int i)], [rl 3 1 eI cs], []⟩ : St)) (fun i : Nat => l.length - i)
  · (apply to_ []; apply toAt_ [.all 0] 0; rotate_left 1; exact ⟨rfl, rfl, rfl, rfl, ⟨rfl, ⟨rfl, rfl, fun _ _ => rfl⟩, rfl, rfl, trivial⟩, ⟨trivial, rfl, rfl, rfl, fun _ _ => ⟨rfl, trivial⟩⟩, trivial⟩)
    exact ⟨Nat.zero_le _, upTo_zero _⟩
  · rintro i ⟨h1, h2⟩
    repeat' ((conv => whnf); first | (refine And.intro ?_ ?_) | (intro _) | (apply call0_ (g := 88); refine call_isPlace []  rfl ⟨rfl, rfl, trivial⟩ trivial (by first | exact trivial | exact ⟨trivial, trivial⟩) ?_ ?_))
    all_goals (try simp only [Int.toNat_natCast] at *)
    all_goals first | omega | skip
    all_goals (conv => whnf)
    · rename_i hp hne
      (apply ret_ []; apply retAt_ [.all 0] (bl _) [rl 3 1 eI cs] rfl rfl; exact rfl; exact ⟨⟨trivial, rfl, rfl, rfl, fun _ _ => ⟨rfl, trivial⟩⟩, trivial⟩; refine ⟨rfl, congrArg bl ?_⟩)
      have e : readI cs l i = false := decide_eq_false (fun h => hne h.2.2)
      exact (allTo_not (by omega) e).symm
    · rename_i hp he
      (apply to_ []; apply toAt_ [.all 0] (i + 1); rotate_left 1; exact ⟨rfl, rfl, rfl, rfl, ⟨rfl, ⟨rfl, rfl, fun _ _ => rfl⟩, rfl, rfl, trivial⟩, ⟨trivial, rfl, rfl, rfl, fun _ _ => ⟨rfl, trivial⟩⟩, trivial⟩)
      have e : readI cs l i = true := decide_eq_true ⟨hp.1, hp.2, by simpa using he⟩
      exact ⟨⟨by omega, upTo_succ h2 e⟩, by omega⟩
    · rename_i hp
      (apply ret_ []; apply retAt_ [.all 0] (bl _) [rl 3 1 eI cs] rfl rfl; exact rfl; exact ⟨⟨trivial, rfl, rfl, rfl, fun _ _ => ⟨rfl, trivial⟩⟩, trivial⟩; refine ⟨rfl, congrArg bl ?_⟩)
      have e : readI cs l i = false := decide_eq_false (fun h => hp ⟨h.1, h.2.1⟩)
      exact (allTo_not (by omega) e).symm
    · (apply ret_ []; apply retAt_ [.all 0] (bl _) [rl 3 1 eI cs] rfl rfl; exact rfl; exact ⟨⟨trivial, rfl, rfl, rfl, fun _ _ => ⟨rfl, trivial⟩⟩, trivial⟩; refine ⟨rfl, congrArg bl ?_⟩)
      exact (allTo_of (fun k hk => h2 k (by omega))).symm
theorem callx_hasAll {al0 : Lim} {s0 : St} {as0 : List Operand} {d0 : Option Tmp} {K0 : St → Prop} {cs : List Int} {l : List Put} (ρ : List Sel) (cok_ : CallOK prog 66 [.c (.s ⟨0, 0⟩ cs.length), lst 2 ePut l] [rl 3 1 eI cs] (fun r os => os = [rl 3 1 eI cs] ∧ r = bl (readsB cs l))) (cn_ : nodupB (keysOf ρ) = true) (ca_ : tvsLe ρ s0.loc.length (as0.map (ev s0)) [.c (.s ⟨0, 0⟩ cs.length), lst 2 ePut l]) (co_ : locLe ρ s0.loc.length s0.loc s0.fz ρ [rl 3 1 eI cs]) (cl_ : limP al0 s0.loc ρ True) (cT_ : (readsB cs l) = true → placesK s0.loc ρ ([rl 3 1 eI cs].map (AObj.up ρ s0.loc.length)) fun loc' => s0.afterK loc' d0 ((bl true : TV).up ρ s0.loc.length) K0) (cF_ : (readsB cs l) = false → placesK s0.loc ρ ([rl 3 1 eI cs].map (AObj.up ρ s0.loc.length)) fun loc' => s0.afterK loc' d0 ((bl false : TV).up ρ s0.loc.length) K0) : CallAt prog al0 s0 66 as0 d0 K0 :=
  callB ρ cok_ cn_ ca_ co_ cl_ (by rintro r os ⟨rfl, rfl⟩; cases hb : (readsB cs l) with | true => exact cT_  hb  | false => exact cF_  hb )
theorem call_hasAll {al0 : Lim} {s0 : St} {as0 : List Operand} {d0 : Option Tmp} {K0 : St → Prop} {cs : List Int} {l : List Put} (ρ : List Sel) (cn_ : nodupB (keysOf ρ) = true) (ca_ : tvsLe ρ s0.loc.length (as0.map (ev s0)) [.c (.s ⟨0, 0⟩ cs.length), lst 2 ePut l]) (co_ : locLe ρ s0.loc.length s0.loc s0.fz ρ [rl 3 1 eI cs]) (cl_ : limP al0 s0.loc ρ True) (cT_ : (readsB cs l) = true → placesK s0.loc ρ ([rl 3 1 eI cs].map (AObj.up ρ s0.loc.length)) fun loc' => s0.afterK loc' d0 ((bl true : TV).up ρ s0.loc.length) K0) (cF_ : (readsB cs l) = false → placesK s0.loc ρ ([rl 3 1 eI cs].map (AObj.up ρ s0.loc.length)) fun loc' => s0.afterK loc' d0 ((bl false : TV).up ρ s0.loc.length) K0) : CallAt prog al0 s0 66 as0 d0 K0 :=
  callx_hasAll ρ (hasAll_ok cs l) cn_ ca_ co_ cl_ cT_ cF_
theorem putAll_ok (cs : List Int) (l : List Put) : CallOK prog 67 [.c (.s ⟨0, 0⟩ cs.length), lst 2 ePut l] [rl 3 1 eI cs] (fun r os => os = [rl 3 1 eI (putsF cs l)] ∧ r = .t []) := by
  refine fn_ (D := []) [] tab_ok hmo func67 rfl rfl rfl rfl ?_
  repeat' ((conv => whnf); first | (refine And.intro ?_ ?_) | (intro _))
  apply loop_ (fun ((i, ds) : (Nat) × (List Int)) => i ≤ l.length ∧ ds = putsF cs (l.take i)) (fun ((i, ds) : (Nat) × (List Int)) => (⟨24, [(0, .c (.s ⟨0, 0⟩ ds.length)), (6, lst 2 ePut l), (7, int l.length), (8, int i)], [rl 3 1 eI ds], []⟩ : St)) (fun ((i, ds) : (Nat) × (List Int)) => l.length - i)
  · (apply to_ []; apply toAt_ [.all 0] (0, cs); rotate_left 1; exact ⟨rfl, rfl, rfl, rfl, ⟨rfl, ⟨rfl, rfl, fun _ _ => rfl⟩, rfl, rfl, trivial⟩, ⟨trivial, rfl, rfl, rfl, fun _ _ => ⟨rfl, trivial⟩⟩, trivial⟩)
    exact ⟨Nat.zero_le _, rfl⟩
  · rintro ⟨i, ds⟩ ⟨h1, h2⟩
    have hln : i < l.length → putsF cs (l.take (i + 1)) = putI ds (l.getD i default) := fun h => by rw [putsF_snoc h, ← h2]
    repeat' ((conv => whnf); first | (refine And.intro ?_ ?_) | (intro _) | (apply call0_ (g := 88); refine call_isPlace []  rfl ⟨rfl, rfl, trivial⟩ trivial (by first | exact trivial | exact ⟨trivial, trivial⟩) ?_ ?_))
    all_goals (try simp only [Int.toNat_natCast] at *)
    all_goals first | omega | skip
    all_goals (conv => whnf)
    · rename_i hp
      have e : putI ds (l.getD i default) = ds.set (l.getD i default).cell.toNat (l.getD i default).num := if_pos hp
      (apply to_ []; apply toAt_ [.all 0] (i + 1, ds.set (l.getD i default).cell.toNat (l.getD i default).num); rotate_left 1; exact ⟨rfl, rfl, rfl, rfl, ⟨congrArg (CV.s _) List.length_set.symm, ⟨rfl, rfl, fun _ _ => rfl⟩, rfl, rfl, trivial⟩, ⟨trivial, rfl, rfl, List.length_set.symm, setLeL eI (fun _ _ _ => ⟨rfl, trivial⟩) ⟨rfl, trivial⟩⟩, trivial⟩)
      exact ⟨⟨by omega, by rw [hln (by omega), e]⟩, by (try simp only); omega⟩
    · rename_i hp
      have e : putI ds (l.getD i default) = ds := if_neg hp
      (apply to_ []; apply toAt_ [.all 0] (i + 1, ds); rotate_left 1; exact ⟨rfl, rfl, rfl, rfl, ⟨rfl, ⟨rfl, rfl, fun _ _ => rfl⟩, rfl, rfl, trivial⟩, ⟨trivial, rfl, rfl, rfl, fun _ _ => ⟨rfl, trivial⟩⟩, trivial⟩)
      exact ⟨⟨by omega, by rw [hln (by omega), e]⟩, by (try simp only); omega⟩
    · have e : ds = putsF cs l := by rw [h2, List.take_of_length_le (by omega)]
      rw [← e]
      apply ret_ []
      apply retAt_ [.all 0] (.t []) [rl 3 1 eI ds] rfl rfl
      · trivial
      · exact ⟨⟨trivial, rfl, rfl, rfl, fun _ _ => ⟨rfl, trivial⟩⟩, trivial⟩
      · exact ⟨rfl, rfl⟩
theorem callx_putAll {al0 : Lim} {s0 : St} {as0 : List Operand} {d0 : Option Tmp} {K0 : St → Prop} {cs : List Int} {l : List Put} (ρ : List Sel) (cok_ : CallOK prog 67 [.c (.s ⟨0, 0⟩ cs.length), lst 2 ePut l] [rl 3 1 eI cs] (fun r os => os = [rl 3 1 eI (putsF cs l)] ∧ r = .t [])) (cn_ : nodupB (keysOf ρ) = true) (ca_ : tvsLe ρ s0.loc.length (as0.map (ev s0)) [.c (.s ⟨0, 0⟩ cs.length), lst 2 ePut l]) (co_ : locLe ρ s0.loc.length s0.loc s0.fz ρ [rl 3 1 eI cs]) (cl_ : limP al0 s0.loc ρ True) (ck_ : placesK s0.loc ρ ([rl 3 1 eI (putsF cs l)].map (AObj.up ρ s0.loc.length)) fun loc' => s0.afterK loc' d0 ((.t [] : TV).up ρ s0.loc.length) K0) : CallAt prog al0 s0 67 as0 d0 K0 :=
  callB ρ cok_ cn_ ca_ co_ cl_ (by rintro r os ⟨rfl, rfl⟩; exact ck_ )
theorem call_putAll {al0 : Lim} {s0 : St} {as0 : List Operand} {d0 : Option Tmp} {K0 : St → Prop} {cs : List Int} {l : List Put} (ρ : List Sel) (cn_ : nodupB (keysOf ρ) = true) (ca_ : tvsLe ρ s0.loc.length (as0.map (ev s0)) [.c (.s ⟨0, 0⟩ cs.length), lst 2 ePut l]) (co_ : locLe ρ s0.loc.length s0.loc s0.fz ρ [rl 3 1 eI cs]) (cl_ : limP al0 s0.loc ρ True) (ck_ : placesK s0.loc ρ ([rl 3 1 eI (putsF cs l)].map (AObj.up ρ s0.loc.length)) fun loc' => s0.afterK loc' d0 ((.t [] : TV).up ρ s0.loc.length) K0) : CallAt prog al0 s0 67 as0 d0 K0 :=
  callx_putAll ρ (putAll_ok cs l) cn_ ca_ co_ cl_ ck_
def plans36 : Plans := []
theorem plans36_ok : plansOk plans36 (bodyOf f36) = true := by kernel_rfl
theorem iLogReplay_ok (cs : List Int) (L : List Entry) (hc : cs.length ≤ 1099511627776) : CallOK prog 36 [lst 1 eI cs, lst 6 eEntry L] [] (fun r os => os = [] ∧ r = .t [.c (dl 1 eI ((replayF cs L).getD [])), .c (.v (.bool (replayF cs L).isSome))]) := by
  refine fn_ (D := []) [] tab_ok hmo func36 rfl rfl rfl rfl ?_
  repeat' ((conv => whnf); first | (refine And.intro ?_ ?_) | (intro _) | (apply call0_ (g := 65); refine call_cloneInt [] hc rfl ⟨⟨rfl, rfl, fun _ _ => rfl⟩, trivial⟩ trivial (by first | exact trivial | exact ⟨trivial, trivial⟩) ?_))
  apply loop_ (fun ((i, ds) : (Nat) × (List Int)) => i ≤ L.length ∧ replayF cs (L.take i) = some ds) (fun ((i, ds) : (Nat) × (List Int)) => (⟨28, [(6, .c (.s ⟨0, 0⟩ ds.length)), (11, lst 6 eEntry L), (12, int L.length), (13, int i)], [rl 3 1 eI ds], []⟩ : St)) (fun ((i, ds) : (Nat) × (List Int)) => L.length - i)
  · (apply to_ []; apply toAt_ [.all 0] (0, cs); rotate_left 1; exact ⟨rfl, rfl, rfl, rfl, ⟨rfl, ⟨rfl, rfl, fun _ _ => rfl⟩, rfl, rfl, trivial⟩, ⟨trivial, rfl, rfl, rfl, fun _ _ => ⟨rfl, trivial⟩⟩, trivial⟩)
    exact ⟨Nat.zero_le _, rfl⟩
  · rintro ⟨i, ds⟩ ⟨h1, h2⟩
    have hsn : i < L.length → replayF cs (L.take (i + 1)) = if readsB ds (L.getD i default).reads then some (putsF ds (L.getD i default).puts) else none := fun h => by rw [replayF_snoc h, h2]; rfl
    repeat' ((conv => whnf); first | (refine And.intro ?_ ?_) | (intro _) | (apply call0_ (g := 66); refine call_hasAll [.all 0] (l := (L.getD i default).reads) rfl ⟨rfl, ⟨rfl, rfl, fun _ _ => rfl⟩, trivial⟩ ⟨⟨trivial, rfl, rfl, rfl, fun _ _ => ⟨rfl, trivial⟩⟩, trivial⟩ (by first | exact trivial | exact ⟨⟨rfl, Nat.le_refl _, trivial⟩, trivial⟩ | exact ⟨⟨rfl, trivial, trivial⟩, trivial⟩) ?_ ?_) | (apply call0_ (g := 67); refine call_putAll [.all 0] (l := (L.getD i default).puts) rfl ⟨rfl, ⟨rfl, rfl, fun _ _ => rfl⟩, trivial⟩ ⟨⟨trivial, rfl, rfl, rfl, fun _ _ => ⟨rfl, trivial⟩⟩, trivial⟩ (by first | exact trivial | exact ⟨⟨rfl, Nat.le_refl _, trivial⟩, trivial⟩ | exact ⟨⟨rfl, trivial, trivial⟩, trivial⟩) ?_))
    all_goals (try simp only [Int.toNat_natCast] at *)
    all_goals first | omega | skip
    all_goals (conv => whnf)
    · rename_i hr
      (apply to_ []; apply toAt_ [.all 0] (i + 1, putsF ds (L.getD i default).puts); rotate_left 1; exact ⟨rfl, rfl, rfl, rfl, ⟨congrArg (CV.s _) putsF_len.symm, ⟨rfl, rfl, fun _ _ => rfl⟩, rfl, rfl, trivial⟩, ⟨trivial, rfl, rfl, rfl, fun _ _ => ⟨rfl, trivial⟩⟩, trivial⟩)
      exact ⟨⟨by omega, by rw [hsn (by omega), if_pos hr]⟩, by (try simp only); omega⟩
    · rename_i hr
      have e : replayF cs L = none := replayF_stop (i := i + 1) (by omega) (by rw [hsn (by omega), if_neg (by rw [hr]; decide)])
      rw [e]
      apply ret_ []
      apply retAt0 (r := .t [.c (dl 1 eI []), .c (.v (.bool false))])
      · exact ⟨rfl, rfl, trivial⟩
      · exact ⟨rfl, rfl⟩
    · have e : replayF cs L = some ds := by rw [← h2, List.take_of_length_le (by omega)]
      rw [e]
      apply ret_ [0]
      refine And.intro (fun _ _ => rfl) ?_
      apply retAt0 (r := .t [.c (dl 1 eI ds), .c (.v (.bool true))])
      · exact ⟨⟨rfl, rfl, fun _ _ => rfl⟩, rfl, trivial⟩
      · exact ⟨rfl, rfl⟩
theorem callx_iLogReplay {al0 : Lim} {s0 : St} {as0 : List Operand} {d0 : Option Tmp} {K0 : St → Prop} {cs : List Int} {L : List Entry} (ρ : List Sel) (cok_ : CallOK prog 36 [lst 1 eI cs, lst 6 eEntry L] [] (fun r os => os = [] ∧ r = .t [.c (dl 1 eI ((replayF cs L).getD [])), .c (.v (.bool (replayF cs L).isSome))])) (cn_ : nodupB (keysOf ρ) = true) (ca_ : tvsLe ρ s0.loc.length (as0.map (ev s0)) [lst 1 eI cs, lst 6 eEntry L]) (co_ : locLe ρ s0.loc.length s0.loc s0.fz ρ []) (cl_ : limP al0 s0.loc ρ True) (ck_ : placesK s0.loc ρ ([].map (AObj.up ρ s0.loc.length)) fun loc' => s0.afterK loc' d0 ((.t [.c (dl 1 eI ((replayF cs L).getD [])), .c (.v (.bool (replayF cs L).isSome))] : TV).up ρ s0.loc.length) K0) : CallAt prog al0 s0 36 as0 d0 K0 :=
  callB ρ cok_ cn_ ca_ co_ cl_ (by rintro r os ⟨rfl, rfl⟩; exact ck_ )
theorem call_iLogReplay {al0 : Lim} {s0 : St} {as0 : List Operand} {d0 : Option Tmp} {K0 : St → Prop} {cs : List Int} {L : List Entry} (ρ : List Sel) (hc : cs.length ≤ 1099511627776) (cn_ : nodupB (keysOf ρ) = true) (ca_ : tvsLe ρ s0.loc.length (as0.map (ev s0)) [lst 1 eI cs, lst 6 eEntry L]) (co_ : locLe ρ s0.loc.length s0.loc s0.fz ρ []) (cl_ : limP al0 s0.loc ρ True) (ck_ : placesK s0.loc ρ ([].map (AObj.up ρ s0.loc.length)) fun loc' => s0.afterK loc' d0 ((.t [.c (dl 1 eI ((replayF cs L).getD [])), .c (.v (.bool (replayF cs L).isSome))] : TV).up ρ s0.loc.length) K0) : CallAt prog al0 s0 36 as0 d0 K0 :=
  callx_iLogReplay ρ (iLogReplay_ok cs L hc) cn_ ca_ co_ cl_ ck_
end Go.Proofs.AYT
