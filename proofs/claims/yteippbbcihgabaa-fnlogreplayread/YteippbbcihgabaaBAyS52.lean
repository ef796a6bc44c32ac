/- Plain words, and contracts of the program's functions. Conditions: as each theorem tells. -/
import Derived.Test.YteippbbcihgabaaBAyS48
set_option linter.unusedVariables false
set_option linter.unusedSimpArgs false
set_option linter.unusedSectionVars false
namespace Go.Proofs.AYT
open Go Go.Proofs.AY Go.Proofs.Try
theorem hasAllO_ok (cs : List Int) (l : List Put) : CallOK prog 66 [.c (.s ⟨0, 0⟩ cs.length), .c (.s ⟨1, 0⟩ l.length)] [rl 3 1 eI cs, rl 51 2 ePut l] (fun r os => os = [rl 3 1 eI cs, rl 51 2 ePut l] ∧ r = bl (readsB cs l)) := by
  refine fn_ [] tab_ok hmo func66 rfl rfl plans66_ok rfl ?_
  repeat' ((conv => whnf); first | (refine And.intro ?_ ?_) | (intro _))
  apply loop_ (fun i : Nat => i ≤ l.length ∧ upTo (readI cs l) i) (fun i : Nat => (⟨30, [(0, .c (.s ⟨0, 0⟩ cs.length)), (7, .c (.s ⟨1, 0⟩ l.length)), (8, int l.length), (9, int i)], [rl 3 1 eI cs, rl 51 2 ePut l], []⟩ : St)) (fun i : Nat => l.length - i)
  · (apply to_ []; apply toAt_ [.all 0, .all 1] 0; rotate_left 1; exact ⟨rfl, rfl, rfl, rfl, ⟨rfl, rfl, rfl, rfl, trivial⟩, ⟨trivial, rfl, rfl, rfl, fun _ _ => by first | exact ⟨rfl, trivial⟩ | exact ⟨rfl, rfl, trivial⟩⟩, ⟨trivial, rfl, rfl, rfl, fun _ _ => by first | exact ⟨rfl, trivial⟩ | exact ⟨rfl, rfl, trivial⟩⟩, trivial⟩)
    exact ⟨Nat.zero_le _, upTo_zero _⟩
  · rintro i ⟨h1, h2⟩
    repeat' ((conv => whnf); first | (refine And.intro ?_ ?_) | (intro _) | (apply call0_ (g := 88); refine call_isPlace []  rfl ⟨rfl, rfl, trivial⟩ trivial (by first | exact trivial | exact ⟨trivial, trivial⟩) ?_ ?_))
    all_goals (try simp only [Int.toNat_natCast] at *)
    all_goals first | omega | skip
    all_goals (conv => whnf)
    · rename_i hp hne
      (apply ret_ []; apply retAt_ [.all 0, .all 1] (bl _) [rl 3 1 eI cs, rl 51 2 ePut l] rfl rfl; exact rfl; exact ⟨⟨trivial, rfl, rfl, rfl, fun _ _ => ⟨rfl, trivial⟩⟩, ⟨trivial, rfl, rfl, rfl, fun _ _ => ⟨rfl, rfl, trivial⟩⟩, trivial⟩; refine ⟨rfl, congrArg bl ?_⟩)
      have e : readI cs l i = false := decide_eq_false (fun h => hne h.2.2)
      exact (allTo_not (by omega) e).symm
    · rename_i hp he
      (apply to_ []; apply toAt_ [.all 0, .all 1] (i + 1); rotate_left 1; exact ⟨rfl, rfl, rfl, rfl, ⟨rfl, rfl, rfl, rfl, trivial⟩, ⟨trivial, rfl, rfl, rfl, fun _ _ => by first | exact ⟨rfl, trivial⟩ | exact ⟨rfl, rfl, trivial⟩⟩, ⟨trivial, rfl, rfl, rfl, fun _ _ => by first | exact ⟨rfl, trivial⟩ | exact ⟨rfl, rfl, trivial⟩⟩, trivial⟩)
      have e : readI cs l i = true := decide_eq_true ⟨hp.1, hp.2, by simpa using he⟩
      exact ⟨⟨by omega, upTo_succ h2 e⟩, by omega⟩
    · rename_i hp
      (apply ret_ []; apply retAt_ [.all 0, .all 1] (bl _) [rl 3 1 eI cs, rl 51 2 ePut l] rfl rfl; exact rfl; exact ⟨⟨trivial, rfl, rfl, rfl, fun _ _ => ⟨rfl, trivial⟩⟩, ⟨trivial, rfl, rfl, rfl, fun _ _ => ⟨rfl, rfl, trivial⟩⟩, trivial⟩; refine ⟨rfl, congrArg bl ?_⟩)
      have e : readI cs l i = false := decide_eq_false (fun h => hp ⟨h.1, h.2.1⟩)
      exact (allTo_not (by omega) e).symm
    · (apply ret_ []; apply retAt_ [.all 0, .all 1] (bl _) [rl 3 1 eI cs, rl 51 2 ePut l] rfl rfl; exact rfl; exact ⟨⟨trivial, rfl, rfl, rfl, fun _ _ => ⟨rfl, trivial⟩⟩, ⟨trivial, rfl, rfl, rfl, fun _ _ => ⟨rfl, rfl, trivial⟩⟩, trivial⟩; refine ⟨rfl, congrArg bl ?_⟩)
      exact (allTo_of (fun k hk => h2 k (by omega))).symm
theorem callx_hasAllO {al0 : Lim} {s0 : St} {as0 : List Operand} {d0 : Option Tmp} {K0 : St → Prop} {cs : List Int} {l : List Put} (ρ : List Sel) (cok_ : CallOK prog 66 [.c (.s ⟨0, 0⟩ cs.length), .c (.s ⟨1, 0⟩ l.length)] [rl 3 1 eI cs, rl 51 2 ePut l] (fun r os => os = [rl 3 1 eI cs, rl 51 2 ePut l] ∧ r = bl (readsB cs l))) (cn_ : nodupB (keysOf ρ) = true) (ca_ : tvsLe ρ s0.loc.length (as0.map (ev s0)) [.c (.s ⟨0, 0⟩ cs.length), .c (.s ⟨1, 0⟩ l.length)]) (co_ : locLe ρ s0.loc.length s0.loc s0.fz ρ [rl 3 1 eI cs, rl 51 2 ePut l]) (cl_ : limP al0 s0.loc ρ True) (cT_ : (readsB cs l) = true → placesK s0.loc ρ ([rl 3 1 eI cs, rl 51 2 ePut l].map (AObj.up ρ s0.loc.length)) fun loc' => s0.afterK loc' d0 ((bl true : TV).up ρ s0.loc.length) K0) (cF_ : (readsB cs l) = false → placesK s0.loc ρ ([rl 3 1 eI cs, rl 51 2 ePut l].map (AObj.up ρ s0.loc.length)) fun loc' => s0.afterK loc' d0 ((bl false : TV).up ρ s0.loc.length) K0) : CallAt prog al0 s0 66 as0 d0 K0 :=
  callB ρ cok_ cn_ ca_ co_ cl_ (by rintro r os ⟨rfl, rfl⟩; cases hb : (readsB cs l) with | true => exact cT_  hb  | false => exact cF_  hb )
theorem call_hasAllO {al0 : Lim} {s0 : St} {as0 : List Operand} {d0 : Option Tmp} {K0 : St → Prop} {cs : List Int} {l : List Put} (ρ : List Sel) (cn_ : nodupB (keysOf ρ) = true) (ca_ : tvsLe ρ s0.loc.length (as0.map (ev s0)) [.c (.s ⟨0, 0⟩ cs.length), .c (.s ⟨1, 0⟩ l.length)]) (co_ : locLe ρ s0.loc.length s0.loc s0.fz ρ [rl 3 1 eI cs, rl 51 2 ePut l]) (cl_ : limP al0 s0.loc ρ True) (cT_ : (readsB cs l) = true → placesK s0.loc ρ ([rl 3 1 eI cs, rl 51 2 ePut l].map (AObj.up ρ s0.loc.length)) fun loc' => s0.afterK loc' d0 ((bl true : TV).up ρ s0.loc.length) K0) (cF_ : (readsB cs l) = false → placesK s0.loc ρ ([rl 3 1 eI cs, rl 51 2 ePut l].map (AObj.up ρ s0.loc.length)) fun loc' => s0.afterK loc' d0 ((bl false : TV).up ρ s0.loc.length) K0) : CallAt prog al0 s0 66 as0 d0 K0 :=
  callx_hasAllO ρ (hasAllO_ok cs l) cn_ ca_ co_ cl_ cT_ cF_
theorem putAllO_ok (cs : List Int) (l : List Put) : CallOK prog 67 [.c (.s ⟨0, 0⟩ cs.length), .c (.s ⟨1, 0⟩ l.length)] [rl 3 1 eI cs, rl 51 2 ePut l] (fun r os => os = [rl 3 1 eI (putsF cs l), rl 51 2 ePut l] ∧ r = .t []) := by
  refine fn_ (D := []) [] tab_ok hmo func67 rfl rfl rfl rfl ?_
  repeat' ((conv => whnf); first | (refine And.intro ?_ ?_) | (intro _))
  apply loop_ (fun ((i, ds) : (Nat) × (List Int)) => i ≤ l.length ∧ ds = putsF cs (l.take i)) (fun ((i, ds) : (Nat) × (List Int)) => (⟨24, [(0, .c (.s ⟨0, 0⟩ ds.length)), (6, .c (.s ⟨1, 0⟩ l.length)), (7, int l.length), (8, int i)], [rl 3 1 eI ds, rl 51 2 ePut l], []⟩ : St)) (fun ((i, ds) : (Nat) × (List Int)) => l.length - i)
  · (apply to_ []; apply toAt_ [.all 0, .all 1] (0, cs); rotate_left 1; exact ⟨rfl, rfl, rfl, rfl, ⟨rfl, rfl, rfl, rfl, trivial⟩, ⟨trivial, rfl, rfl, rfl, fun _ _ => by first | exact ⟨rfl, trivial⟩ | exact ⟨rfl, rfl, trivial⟩⟩, ⟨trivial, rfl, rfl, rfl, fun _ _ => by first | exact ⟨rfl, trivial⟩ | exact ⟨rfl, rfl, trivial⟩⟩, trivial⟩)
    exact ⟨Nat.zero_le _, rfl⟩
  · rintro ⟨i, ds⟩ ⟨h1, h2⟩
    have hln : i < l.length → putsF cs (l.take (i + 1)) = putI ds (l.getD i default) := fun h => by rw [putsF_snoc h, ← h2]
    repeat' ((conv => whnf); first | (refine And.intro ?_ ?_) | (intro _) | (apply call0_ (g := 88); refine call_isPlace []  rfl ⟨rfl, rfl, trivial⟩ trivial (by first | exact trivial | exact ⟨trivial, trivial⟩) ?_ ?_))
    all_goals (try simp only [Int.toNat_natCast] at *)
    all_goals first | omega | skip
    all_goals (conv => whnf)
    · rename_i hp
      have e : putI ds (l.getD i default) = ds.set (l.getD i default).cell.toNat (l.getD i default).num := if_pos hp
      (apply to_ []; apply toAt_ [.all 0, .all 1] (i + 1, ds.set (l.getD i default).cell.toNat (l.getD i default).num); rotate_left 1; exact ⟨rfl, rfl, rfl, rfl, ⟨congrArg (CV.s _) List.length_set.symm, rfl, rfl, rfl, trivial⟩, ⟨trivial, rfl, rfl, List.length_set.symm, setLeL eI (fun _ _ _ => ⟨rfl, trivial⟩) ⟨rfl, trivial⟩⟩, ⟨trivial, rfl, rfl, rfl, fun _ _ => by first | exact ⟨rfl, trivial⟩ | exact ⟨rfl, rfl, trivial⟩⟩, trivial⟩)
      exact ⟨⟨by omega, by rw [hln (by omega), e]⟩, by (try simp only); omega⟩
    · rename_i hp
      have e : putI ds (l.getD i default) = ds := if_neg hp
      (apply to_ []; apply toAt_ [.all 0, .all 1] (i + 1, ds); rotate_left 1; exact ⟨rfl, rfl, rfl, rfl, ⟨rfl, rfl, rfl, rfl, trivial⟩, ⟨trivial, rfl, rfl, rfl, fun _ _ => by first | exact ⟨rfl, trivial⟩ | exact ⟨rfl, rfl, trivial⟩⟩, ⟨trivial, rfl, rfl, rfl, fun _ _ => by first | exact ⟨rfl, trivial⟩ | exact ⟨rfl, rfl, trivial⟩⟩, trivial⟩)
      exact ⟨⟨by omega, by rw [hln (by omega), e]⟩, by (try simp only); omega⟩
    · have e : ds = putsF cs l := by rw [h2, List.take_of_length_le (by omega)]
      rw [← e]
      apply ret_ []
      apply retAt_ [.all 0, .all 1] (.t []) [rl 3 1 eI ds, rl 51 2 ePut l] rfl rfl
      · trivial
      · exact ⟨⟨trivial, rfl, rfl, rfl, fun _ _ => ⟨rfl, trivial⟩⟩, ⟨trivial, rfl, rfl, rfl, fun _ _ => ⟨rfl, rfl, trivial⟩⟩, trivial⟩
      · exact ⟨rfl, rfl⟩
theorem callx_putAllO {al0 : Lim} {s0 : St} {as0 : List Operand} {d0 : Option Tmp} {K0 : St → Prop} {cs : List Int} {l : List Put} (ρ : List Sel) (cok_ : CallOK prog 67 [.c (.s ⟨0, 0⟩ cs.length), .c (.s ⟨1, 0⟩ l.length)] [rl 3 1 eI cs, rl 51 2 ePut l] (fun r os => os = [rl 3 1 eI (putsF cs l), rl 51 2 ePut l] ∧ r = .t [])) (cn_ : nodupB (keysOf ρ) = true) (ca_ : tvsLe ρ s0.loc.length (as0.map (ev s0)) [.c (.s ⟨0, 0⟩ cs.length), .c (.s ⟨1, 0⟩ l.length)]) (co_ : locLe ρ s0.loc.length s0.loc s0.fz ρ [rl 3 1 eI cs, rl 51 2 ePut l]) (cl_ : limP al0 s0.loc ρ True) (ck_ : placesK s0.loc ρ ([rl 3 1 eI (putsF cs l), rl 51 2 ePut l].map (AObj.up ρ s0.loc.length)) fun loc' => s0.afterK loc' d0 ((.t [] : TV).up ρ s0.loc.length) K0) : CallAt prog al0 s0 67 as0 d0 K0 :=
  callB ρ cok_ cn_ ca_ co_ cl_ (by rintro r os ⟨rfl, rfl⟩; exact ck_ )
theorem call_putAllO {al0 : Lim} {s0 : St} {as0 : List Operand} {d0 : Option Tmp} {K0 : St → Prop} {cs : List Int} {l : List Put} (ρ : List Sel) (cn_ : nodupB (keysOf ρ) = true) (ca_ : tvsLe ρ s0.loc.length (as0.map (ev s0)) [.c (.s ⟨0, 0⟩ cs.length), .c (.s ⟨1, 0⟩ l.length)]) (co_ : locLe ρ s0.loc.length s0.loc s0.fz ρ [rl 3 1 eI cs, rl 51 2 ePut l]) (cl_ : limP al0 s0.loc ρ True) (ck_ : placesK s0.loc ρ ([rl 3 1 eI (putsF cs l), rl 51 2 ePut l].map (AObj.up ρ s0.loc.length)) fun loc' => s0.afterK loc' d0 ((.t [] : TV).up ρ s0.loc.length) K0) : CallAt prog al0 s0 67 as0 d0 K0 :=
  callx_putAllO ρ (putAllO_ok cs l) cn_ ca_ co_ cl_ ck_
end Go.Proofs.AYT

