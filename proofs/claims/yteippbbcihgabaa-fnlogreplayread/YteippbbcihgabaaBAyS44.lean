/- A symbolic executor over the model, plain words, and contracts of the program's functions, part 23. Conditions: as each theorem tells. -/
import Derived.Test.YteippbbcihgabaaBAyS43
set_option linter.unusedVariables false
set_option linter.unusedSimpArgs false
set_option linter.unusedSectionVars false
namespace Go.Proofs.AYT
open Go Go.Proofs.AY Go.Proofs.Try
def plans63 : Plans := [(4, ⟨.take 0 false (.take 1 false (.take 2 false (.take 3 false (.take 5 false (.take 6 false (.take 7 false (.take 4 true (.alt 8 (.take 9 false (.take 10 false (.take 11 false (.take 12 false (.take 13 false (.take 14 false (.take 15 false (.take 19 false (.take 20 false (.take 21 false (.take 22 false (.take 16 true (.take 17 false (.take 18 true (.take 23 true (.take 24 false (.take 25 false .done))))))))))))))))) .done)))))))), [], []⟩)]
theorem plans63_ok : plansOk plans63 (bodyOf f63) = true := by kernel_rfl
theorem l13Has_ok (cs : List Int) (l : List Put) : CallOK prog 63 [lst 1 eI cs, lst 2 ePut l] [] (fun r os => os = [] ∧ r = bl (readsB cs l)) := by
  refine fn_ [] tab_ok hmo func63 rfl rfl plans63_ok rfl ?_
  repeat' ((conv => whnf); first | (refine And.intro ?_ ?_) | (intro _))
  apply loop_ (fun i : Nat => i ≤ l.length ∧ upTo (readI cs l) i) (fun i : Nat => (⟨38, [(0, lst 1 eI cs), (1, lst 2 ePut l), (5, int i)], [], []⟩ : St)) (fun i : Nat => l.length - i)
  · (apply to_ []; apply toAt_ [] 0; rotate_left 1; exact ⟨rfl, rfl, rfl, rfl, ⟨⟨rfl, rfl, fun _ _ => rfl⟩, ⟨rfl, rfl, fun _ _ => rfl⟩, rfl, trivial⟩, trivial⟩)
    exact ⟨Nat.zero_le _, upTo_zero _⟩
  · rintro i ⟨h1, h2⟩
    repeat' ((conv => whnf); first | (refine And.intro ?_ ?_) | (intro _) | (apply call0_ (g := 56); refine call_l6In []  rfl ⟨rfl, rfl, rfl, trivial⟩ trivial (by first | exact trivial | exact ⟨trivial, trivial⟩) ?_ ?_))
    all_goals (try simp only [Int.toNat_natCast] at *)
    all_goals first | omega | skip
    all_goals (conv => whnf)
    · rename_i hp hne
      (apply ret_ []; apply retAt0 (r := bl _); exact rfl; refine ⟨rfl, congrArg bl ?_⟩)
      have e : readI cs l i = false := decide_eq_false (fun h => hne h.2.2)
      exact (allTo_not (by omega) e).symm
    · rename_i hp he
      (apply to_ []; apply toAt_ [] (i + 1); rotate_left 1; exact ⟨rfl, rfl, rfl, rfl, ⟨⟨rfl, rfl, fun _ _ => rfl⟩, ⟨rfl, rfl, fun _ _ => rfl⟩, rfl, trivial⟩, trivial⟩)
      have e : readI cs l i = true := decide_eq_true ⟨hp.1, hp.2, by simpa using he⟩
      exact ⟨⟨by omega, upTo_succ h2 e⟩, by omega⟩
    · rename_i hp
      (apply ret_ []; apply retAt0 (r := bl _); exact rfl; refine ⟨rfl, congrArg bl ?_⟩)
      have e : readI cs l i = false := decide_eq_false (fun h => hp ⟨h.1, h.2.1⟩)
      exact (allTo_not (by omega) e).symm
    · (apply ret_ []; apply retAt0 (r := bl _); exact rfl; refine ⟨rfl, congrArg bl ?_⟩)
      exact (allTo_of (fun k hk => h2 k (by omega))).symm
theorem callx_l13Has {al0 : Lim} {s0 : St} {as0 : List Operand} {d0 : Option Tmp} {K0 : St → Prop} {cs : List Int} {l : List Put} (ρ : List Sel) (cok_ : CallOK prog 63 [lst 1 eI cs, lst 2 ePut l] [] (fun r os => os = [] ∧ r = bl (readsB cs l))) (cn_ : nodupB (keysOf ρ) = true) (ca_ : tvsLe ρ s0.loc.length (as0.map (ev s0)) [lst 1 eI cs, lst 2 ePut l]) (co_ : locLe ρ s0.loc.length s0.loc s0.fz ρ []) (cl_ : limP al0 s0.loc ρ True) (cT_ : (readsB cs l) = true → placesK s0.loc ρ ([].map (AObj.up ρ s0.loc.length)) fun loc' => s0.afterK loc' d0 ((bl true : TV).up ρ s0.loc.length) K0) (cF_ : (readsB cs l) = false → placesK s0.loc ρ ([].map (AObj.up ρ s0.loc.length)) fun loc' => s0.afterK loc' d0 ((bl false : TV).up ρ s0.loc.length) K0) : CallAt prog al0 s0 63 as0 d0 K0 :=
  callB ρ cok_ cn_ ca_ co_ cl_ (by rintro r os ⟨rfl, rfl⟩; cases hb : (readsB cs l) with | true => exact cT_  hb  | false => exact cF_  hb )
theorem call_l13Has {al0 : Lim} {s0 : St} {as0 : List Operand} {d0 : Option Tmp} {K0 : St → Prop} {cs : List Int} {l : List Put} (ρ : List Sel) (cn_ : nodupB (keysOf ρ) = true) (ca_ : tvsLe ρ s0.loc.length (as0.map (ev s0)) [lst 1 eI cs, lst 2 ePut l]) (co_ : locLe ρ s0.loc.length s0.loc s0.fz ρ []) (cl_ : limP al0 s0.loc ρ True) (cT_ : (readsB cs l) = true → placesK s0.loc ρ ([].map (AObj.up ρ s0.loc.length)) fun loc' => s0.afterK loc' d0 ((bl true : TV).up ρ s0.loc.length) K0) (cF_ : (readsB cs l) = false → placesK s0.loc ρ ([].map (AObj.up ρ s0.loc.length)) fun loc' => s0.afterK loc' d0 ((bl false : TV).up ρ s0.loc.length) K0) : CallAt prog al0 s0 63 as0 d0 K0 :=
  callx_l13Has ρ (l13Has_ok cs l) cn_ ca_ co_ cl_ cT_ cF_
def plans64 : Plans := [(6, ⟨.take 0 false (.take 1 false (.take 2 false (.take 3 false (.take 4 false (.take 6 false (.take 7 false (.take 8 false (.take 9 false (.take 5 true (.take 10 true (.take 11 false (.alt 12 .done .done)))))))))))), [12], []⟩)]
theorem plans64_ok : plansOk plans64 (bodyOf f64) = true := by kernel_rfl
theorem l13Puts_ok (cs : List Int) (l : List Put) (hc : cs.length ≤ 1099511627776) : CallOK prog 64 [lst 1 eI cs, lst 2 ePut l] [] (fun r os => os = [] ∧ r = lst 1 eI (putsF cs l)) := by
  refine fn_ [] tab_ok hmo func64 rfl rfl plans64_ok rfl ?_
  repeat' ((conv => whnf); first | (refine And.intro ?_ ?_) | (intro _))
  all_goals first | omega | (simp only [ti3]; omega) | skip
  all_goals (conv => whnf)
  apply loop_ (fun ((i, ds) : (Nat) × (List Int)) => i ≤ l.length ∧ ds = putsF cs (l.take i)) (fun ((i, ds) : (Nat) × (List Int)) => (⟨38, [(1, lst 2 ePut l), (5, .c (.s ⟨0, 0⟩ ds.length)), (6, int i)], [rl 3 1 eI ds], []⟩ : St)) (fun ((i, ds) : (Nat) × (List Int)) => l.length - i)
  · (apply to_ []; apply toAt_ [.all 1] (0, cs); rotate_left 1; exact ⟨rfl, rfl, rfl, rfl, ⟨⟨rfl, rfl, fun _ _ => rfl⟩, congrArg (CV.s _) (Nat.zero_add _), rfl, trivial⟩, ⟨trivial, rfl, rfl, Nat.zero_add _, fun _ _ => ⟨rfl, trivial⟩⟩, trivial⟩)
    exact ⟨Nat.zero_le _, rfl⟩
  · rintro ⟨i, ds⟩ ⟨h1, h2⟩
    have hln : i < l.length → putsF cs (l.take (i + 1)) = putI ds (l.getD i default) := fun h => by rw [putsF_snoc h, ← h2]
    repeat' ((conv => whnf); first | (refine And.intro ?_ ?_) | (intro _) | (apply call0_ (g := 56); refine call_l6In []  rfl ⟨rfl, rfl, rfl, trivial⟩ trivial (by first | exact trivial | exact ⟨trivial, trivial⟩) ?_ ?_))
    all_goals (try simp only [Int.toNat_natCast] at *)
    all_goals first | omega | skip
    all_goals (conv => whnf)
    · rename_i hp
      have e : putI ds (l.getD i default) = ds.set (l.getD i default).cell.toNat (l.getD i default).num := if_pos hp
      (apply to_ []; apply toAt_ [.all 0] (i + 1, ds.set (l.getD i default).cell.toNat (l.getD i default).num); rotate_left 1; exact ⟨rfl, rfl, rfl, rfl, ⟨⟨rfl, rfl, fun _ _ => rfl⟩, congrArg (CV.s _) List.length_set.symm, rfl, trivial⟩, ⟨trivial, rfl, rfl, List.length_set.symm, setLeL eI (fun _ _ _ => ⟨rfl, trivial⟩) ⟨rfl, trivial⟩⟩, trivial⟩)
      exact ⟨⟨by omega, by rw [hln (by omega), e]⟩, by (try simp only); omega⟩
    · rename_i hp
      have e : putI ds (l.getD i default) = ds := if_neg hp
      (apply to_ []; apply toAt_ [.all 0] (i + 1, ds); rotate_left 1; exact ⟨rfl, rfl, rfl, rfl, ⟨⟨rfl, rfl, fun _ _ => rfl⟩, rfl, rfl, trivial⟩, ⟨trivial, rfl, rfl, rfl, fun _ _ => ⟨rfl, trivial⟩⟩, trivial⟩)
      exact ⟨⟨by omega, by rw [hln (by omega), e]⟩, by (try simp only); omega⟩
    · have e : ds = putsF cs l := by rw [h2, List.take_of_length_le (by omega)]
      rw [← e]
      apply ret_ [0]
      refine And.intro (fun _ _ => rfl) ?_
      apply retAt0 (r := lst 1 eI ds)
      · exact ⟨rfl, rfl, fun _ _ => rfl⟩
      · exact ⟨rfl, rfl⟩
theorem callx_l13Puts {al0 : Lim} {s0 : St} {as0 : List Operand} {d0 : Option Tmp} {K0 : St → Prop} {cs : List Int} {l : List Put} (ρ : List Sel) (cok_ : CallOK prog 64 [lst 1 eI cs, lst 2 ePut l] [] (fun r os => os = [] ∧ r = lst 1 eI (putsF cs l))) (cn_ : nodupB (keysOf ρ) = true) (ca_ : tvsLe ρ s0.loc.length (as0.map (ev s0)) [lst 1 eI cs, lst 2 ePut l]) (co_ : locLe ρ s0.loc.length s0.loc s0.fz ρ []) (cl_ : limP al0 s0.loc ρ True) (ck_ : placesK s0.loc ρ ([].map (AObj.up ρ s0.loc.length)) fun loc' => s0.afterK loc' d0 ((lst 1 eI (putsF cs l) : TV).up ρ s0.loc.length) K0) : CallAt prog al0 s0 64 as0 d0 K0 :=
  callB ρ cok_ cn_ ca_ co_ cl_ (by rintro r os ⟨rfl, rfl⟩; exact ck_ )
theorem call_l13Puts {al0 : Lim} {s0 : St} {as0 : List Operand} {d0 : Option Tmp} {K0 : St → Prop} {cs : List Int} {l : List Put} (ρ : List Sel) (hc : cs.length ≤ 1099511627776) (cn_ : nodupB (keysOf ρ) = true) (ca_ : tvsLe ρ s0.loc.length (as0.map (ev s0)) [lst 1 eI cs, lst 2 ePut l]) (co_ : locLe ρ s0.loc.length s0.loc s0.fz ρ []) (cl_ : limP al0 s0.loc ρ True) (ck_ : placesK s0.loc ρ ([].map (AObj.up ρ s0.loc.length)) fun loc' => s0.afterK loc' d0 ((lst 1 eI (putsF cs l) : TV).up ρ s0.loc.length) K0) : CallAt prog al0 s0 64 as0 d0 K0 :=
  callx_l13Puts ρ (l13Puts_ok cs l hc) cn_ ca_ co_ cl_ ck_
theorem sLogReplay_ok (cs : List Int) (L : List Entry) (hc : cs.length ≤ 1099511627776) : CallOK prog 35 [lst 1 eI cs, lst 6 eEntry L] [] (fun r os => os = [] ∧ r = .t [.c (dl 1 eI ((replayF cs L).getD [])), .c (.v (.bool (replayF cs L).isSome))]) := by
  refine fn_ (D := []) [] tab_ok hmo func35 rfl rfl rfl rfl ?_
  repeat' ((conv => whnf); first | (refine And.intro ?_ ?_) | (intro _))
  all_goals first | omega | (simp only [ti3]; omega) | skip
  all_goals (conv => whnf)
  apply loop_ (fun ((i, ds) : (Nat) × (List Int)) => i ≤ L.length ∧ replayF cs (L.take i) = some ds) (fun ((i, ds) : (Nat) × (List Int)) => (⟨34, [(1, lst 6 eEntry L), (6, lst 1 eI ds), (7, int i)], [], []⟩ : St)) (fun ((i, ds) : (Nat) × (List Int)) => L.length - i)
  · apply to_ [1]
    refine And.intro (fun _ _ => rfl) ?_
    (apply toAt_ [] (0, cs); rotate_left 1; exact ⟨rfl, rfl, rfl, rfl, ⟨⟨rfl, rfl, fun _ _ => rfl⟩, ⟨rfl, Nat.zero_add _, fun _ _ => rfl⟩, rfl, trivial⟩, trivial⟩)
    exact ⟨Nat.zero_le _, rfl⟩
  · rintro ⟨i, ds⟩ ⟨h1, h2⟩
    have hdl := replayF_len h2
    have hsn : i < L.length → replayF cs (L.take (i + 1)) = if readsB ds (L.getD i default).reads then some (putsF ds (L.getD i default).puts) else none := fun h => by rw [replayF_snoc h, h2]; rfl
    repeat' ((conv => whnf); first | (refine And.intro ?_ ?_) | (intro _) | (apply call0_ (g := 63); refine call_l13Has [] (cs := ds) (l := (L.getD i default).reads) rfl ⟨⟨rfl, rfl, fun _ _ => rfl⟩, ⟨rfl, rfl, fun _ _ => rfl⟩, trivial⟩ trivial (by first | exact trivial | exact ⟨trivial, trivial⟩) ?_ ?_) | (apply call0_ (g := 64); refine call_l13Puts [] (cs := ds) (l := (L.getD i default).puts) (by omega) rfl ⟨⟨rfl, rfl, fun _ _ => rfl⟩, ⟨rfl, rfl, fun _ _ => rfl⟩, trivial⟩ trivial (by first | exact trivial | exact ⟨trivial, trivial⟩) ?_))
    all_goals (try simp only [Int.toNat_natCast] at *)
    all_goals first | omega | skip
    all_goals (conv => whnf)
    · rename_i hr
      (apply to_ []; apply toAt_ [] (i + 1, putsF ds (L.getD i default).puts); rotate_left 1; exact ⟨rfl, rfl, rfl, rfl, ⟨⟨rfl, rfl, fun _ _ => rfl⟩, ⟨rfl, rfl, fun _ _ => rfl⟩, rfl, trivial⟩, trivial⟩)
      exact ⟨⟨by omega, by rw [hsn (by omega), if_pos hr]⟩, by (try simp only); omega⟩
    · rename_i hr
      have e : replayF cs L = none := replayF_stop (i := i + 1) (by omega) (by rw [hsn (by omega), if_neg (by rw [hr]; decide)])
      rw [e]
      apply ret_ [0]
      refine And.intro (fun _ h => absurd h (Nat.not_lt_zero _)) ?_
      apply retAt0 (r := .t [.c (dl 1 eI []), .c (.v (.bool false))])
      · exact ⟨⟨rfl, rfl, (fun _ h => absurd h (Nat.not_lt_zero _))⟩, rfl, trivial⟩
      · exact ⟨rfl, rfl⟩
    · have e : replayF cs L = some ds := by rw [← h2, List.take_of_length_le (by omega)]
      rw [e]
      apply ret_ []
      apply retAt0 (r := .t [.c (dl 1 eI ds), .c (.v (.bool true))])
      · exact ⟨⟨rfl, rfl, fun _ _ => rfl⟩, rfl, trivial⟩
      · exact ⟨rfl, rfl⟩
theorem callx_sLogReplay {al0 : Lim} {s0 : St} {as0 : List Operand} {d0 : Option Tmp} {K0 : St → Prop} {cs : List Int} {L : List Entry} (ρ : List Sel) (cok_ : CallOK prog 35 [lst 1 eI cs, lst 6 eEntry L] [] (fun r os => os = [] ∧ r = .t [.c (dl 1 eI ((replayF cs L).getD [])), .c (.v (.bool (replayF cs L).isSome))])) (cn_ : nodupB (keysOf ρ) = true) (ca_ : tvsLe ρ s0.loc.length (as0.map (ev s0)) [lst 1 eI cs, lst 6 eEntry L]) (co_ : locLe ρ s0.loc.length s0.loc s0.fz ρ []) (cl_ : limP al0 s0.loc ρ True) (ck_ : placesK s0.loc ρ ([].map (AObj.up ρ s0.loc.length)) fun loc' => s0.afterK loc' d0 ((.t [.c (dl 1 eI ((replayF cs L).getD [])), .c (.v (.bool (replayF cs L).isSome))] : TV).up ρ s0.loc.length) K0) : CallAt prog al0 s0 35 as0 d0 K0 :=
  callB ρ cok_ cn_ ca_ co_ cl_ (by rintro r os ⟨rfl, rfl⟩; exact ck_ )
theorem call_sLogReplay {al0 : Lim} {s0 : St} {as0 : List Operand} {d0 : Option Tmp} {K0 : St → Prop} {cs : List Int} {L : List Entry} (ρ : List Sel) (hc : cs.length ≤ 1099511627776) (cn_ : nodupB (keysOf ρ) = true) (ca_ : tvsLe ρ s0.loc.length (as0.map (ev s0)) [lst 1 eI cs, lst 6 eEntry L]) (co_ : locLe ρ s0.loc.length s0.loc s0.fz ρ []) (cl_ : limP al0 s0.loc ρ True) (ck_ : placesK s0.loc ρ ([].map (AObj.up ρ s0.loc.length)) fun loc' => s0.afterK loc' d0 ((.t [.c (dl 1 eI ((replayF cs L).getD [])), .c (.v (.bool (replayF cs L).isSome))] : TV).up ρ s0.loc.length) K0) : CallAt prog al0 s0 35 as0 d0 K0 :=
  callx_sLogReplay ρ (sLogReplay_ok cs L hc) cn_ ca_ co_ cl_ ck_
end Go.Proofs.AYT
