/- A symbolic executor over the model, plain words, and contracts of the program's functions, part 19. Conditions: as each theorem tells. -/
import Derived.Test.YteippbbcihgabaaAyS39
set_option linter.unusedVariables false
set_option linter.unusedSimpArgs false
set_option linter.unusedSectionVars false
namespace Go.Proofs.AYT
open Go Go.Proofs.AY Go.Proofs.Try
def plans23 : Plans := [(7, ⟨.take 0 false (.take 1 false (.take 2 false (.take 4 false (.take 5 false (.take 6 false (.take 3 true (.take 7 true (.alt 8 .done .done)))))))), [], []⟩)]
theorem plans23_ok : plansOk plans23 (bodyOf f23) = true := by kernel_rfl
theorem sLogReal_ok (L : List Entry) : CallOK prog 23 [lst 6 eEntry L] [] (fun r os => os = [] ∧ r = bl (realB L)) := by
  refine fn_ [] tab_ok hmo func23 rfl rfl plans23_ok rfl ?_
  repeat' ((conv => whnf); first | (refine And.intro ?_ ?_) | (intro _))
  apply loop_ (fun i : Nat => i ≤ L.length ∧ upTo (realI L) i) (fun i : Nat => (⟨34, [(0, lst 6 eEntry L), (3, int i)], [], []⟩ : St)) (fun i : Nat => L.length - i)
  · (apply to_ []; apply toAt_ [] 0; rotate_left 1; exact ⟨rfl, rfl, rfl, rfl, ⟨⟨rfl, rfl, fun _ _ => rfl⟩, rfl, trivial⟩, trivial⟩)
    exact ⟨Nat.zero_le _, upTo_zero _⟩
  · rintro i ⟨h1, h2⟩
    repeat' ((conv => whnf); first | (refine And.intro ?_ ?_) | (intro _))
    all_goals (try simp only [Int.toNat_natCast] at *)
    all_goals first | omega | skip
    · conv => whnf
      apply loop_ (fun j : Nat => i < L.length ∧ j ≤ i ∧ upTo (realAt L i) j) (fun j : Nat => (⟨34, [(0, lst 6 eEntry L), (3, int i), (4, int j)], [], []⟩ : St)) (fun j : Nat => i - j)
      · (apply to_ []; apply toAt_ [] 0; rotate_left 1; exact ⟨rfl, rfl, rfl, rfl, ⟨⟨rfl, rfl, fun _ _ => rfl⟩, rfl, rfl, trivial⟩, trivial⟩)
        exact ⟨by omega, Nat.zero_le _, upTo_zero _⟩
      · rintro j ⟨g0, g1, g2⟩
        repeat' ((conv => whnf); first | (refine And.intro ?_ ?_) | (intro _) | (apply call0_ (g := 51); refine call_l13Ahead [] (a := L.getD i default) (e := L.getD j default) rfl ⟨⟨rfl, rfl, rfl, ⟨rfl, rfl, fun _ _ => rfl⟩, ⟨rfl, rfl, fun _ _ => rfl⟩, rfl, trivial⟩, ⟨rfl, rfl, rfl, ⟨rfl, rfl, fun _ _ => rfl⟩, ⟨rfl, rfl, fun _ _ => rfl⟩, rfl, trivial⟩, trivial⟩ trivial (by first | exact trivial | exact ⟨trivial, trivial⟩) ?_ ?_))
        all_goals (try simp only [Int.toNat_natCast] at *)
        all_goals first | omega | skip
        all_goals (conv => whnf)
        · rename_i hj hf hah
          (apply ret_ []; apply retAt0 (r := bl _); exact rfl; refine ⟨rfl, congrArg bl ?_⟩)
          have e1 : realAt L i j = false := realAt_yes (by omega) hah
          have e2 : realI L i = false := allTo_not (by omega) e1
          exact (allTo_not (by omega) e2).symm
        · rename_i hj hf hah
          (apply to_ []; apply toAt_ [] (j + 1); rotate_left 1; exact ⟨rfl, rfl, rfl, rfl, ⟨⟨rfl, rfl, fun _ _ => rfl⟩, rfl, rfl, trivial⟩, trivial⟩)
          exact ⟨⟨g0, by omega, upTo_succ g2 (realAt_no hah)⟩, by omega⟩
        all_goals
          (apply to_ []; apply toAt_ [] (i + 1); rotate_left 1; exact ⟨rfl, rfl, rfl, rfl, ⟨⟨rfl, rfl, fun _ _ => rfl⟩, rfl, trivial⟩, trivial⟩)
          refine ⟨⟨by omega, upTo_succ h2 ?_⟩, by omega⟩
        · exact allTo_of (upTo_far g2 (by omega))
        · have : j = i := by omega
          subst this
          exact allTo_of g2
    · (apply ret_ []; apply retAt0 (r := bl _); exact rfl; refine ⟨rfl, congrArg bl ?_⟩)
      exact (allTo_of (fun k hk => h2 k (by omega))).symm
theorem callx_sLogReal {al0 : Lim} {s0 : St} {as0 : List Operand} {d0 : Option Tmp} {K0 : St → Prop} {L : List Entry} (ρ : List Sel) (cok_ : CallOK prog 23 [lst 6 eEntry L] [] (fun r os => os = [] ∧ r = bl (realB L))) (cn_ : nodupB (keysOf ρ) = true) (ca_ : tvsLe ρ s0.loc.length (as0.map (ev s0)) [lst 6 eEntry L]) (co_ : locLe ρ s0.loc.length s0.loc s0.fz ρ []) (cl_ : limP al0 s0.loc ρ True) (cT_ : (realB L) = true → placesK s0.loc ρ ([].map (AObj.up ρ s0.loc.length)) fun loc' => s0.afterK loc' d0 ((bl true : TV).up ρ s0.loc.length) K0) (cF_ : (realB L) = false → placesK s0.loc ρ ([].map (AObj.up ρ s0.loc.length)) fun loc' => s0.afterK loc' d0 ((bl false : TV).up ρ s0.loc.length) K0) : CallAt prog al0 s0 23 as0 d0 K0 :=
  callB ρ cok_ cn_ ca_ co_ cl_ (by rintro r os ⟨rfl, rfl⟩; cases hb : (realB L) with | true => exact cT_  hb  | false => exact cF_  hb )
theorem call_sLogReal {al0 : Lim} {s0 : St} {as0 : List Operand} {d0 : Option Tmp} {K0 : St → Prop} {L : List Entry} (ρ : List Sel) (cn_ : nodupB (keysOf ρ) = true) (ca_ : tvsLe ρ s0.loc.length (as0.map (ev s0)) [lst 6 eEntry L]) (co_ : locLe ρ s0.loc.length s0.loc s0.fz ρ []) (cl_ : limP al0 s0.loc ρ True) (cT_ : (realB L) = true → placesK s0.loc ρ ([].map (AObj.up ρ s0.loc.length)) fun loc' => s0.afterK loc' d0 ((bl true : TV).up ρ s0.loc.length) K0) (cF_ : (realB L) = false → placesK s0.loc ρ ([].map (AObj.up ρ s0.loc.length)) fun loc' => s0.afterK loc' d0 ((bl false : TV).up ρ s0.loc.length) K0) : CallAt prog al0 s0 23 as0 d0 K0 :=
  callx_sLogReal ρ (sLogReal_ok L) cn_ ca_ co_ cl_ cT_ cF_
def plans5 : Plans := [(12, ⟨.take 0 false (.take 1 false (.take 2 false (.take 3 false (.take 4 false (.take 6 false (.take 7 false (.take 8 false (.take 5 true (.take 9 true (.alt 10 (.take 11 false (.take 12 false (.take 13 false .done))) .done)))))))))), [], []⟩)]
theorem plans5_ok : plansOk plans5 (bodyOf f5) = true := by kernel_rfl
theorem FnLogReal_ok (n : Nat) (b : Nat → Int) (hb : ∀ i, 0 ≤ b i ∧ b i < 256) : CallOK prog 5 [bytes n b] [] (fun r os => os = [] ∧ r = bl true) := by
  refine fn_ [] tab_ok hmo func5 rfl rfl plans5_ok rfl ?_
  repeat' ((conv => whnf); first | (refine And.intro ?_ ?_) | (intro _) | (apply call0_ (g := 21); refine call_DrawLogReal [] hb rfl ⟨⟨rfl, rfl, fun _ _ => rfl⟩, trivial⟩ trivial (by first | exact trivial | exact ⟨trivial, trivial⟩) ?_) | (apply call0_ (g := 22); refine call_iLogReal []  rfl ⟨⟨rfl, rfl, fun _ _ => rfl⟩, trivial⟩ trivial (by first | exact trivial | exact ⟨trivial, trivial⟩) ?_ ?_))
  all_goals first | omega | skip
  · conv => whnf
    apply ret_ []
    apply retAt0 (r := bl true)
    · rfl
    · exact ⟨rfl, rfl⟩
  all_goals
    rename_i P L hL hr
    conv => whnf
    apply loop_ (fun ((i, a) : (Nat) × (Bool)) => i ≤ L.length ∧ a = allTo (realI L) i) (fun ((i, a) : (Nat) × (Bool)) => (⟨57, [(3, lst 6 eEntry L), (4, bl (realB L)), (5, bl a), (6, int i)], [], []⟩ : St)) (fun ((i, a) : (Nat) × (Bool)) => L.length - i)
    · (apply to_ []; apply toAt_ [] (0, true); rotate_left 1; exact ⟨rfl, rfl, rfl, rfl, ⟨⟨rfl, rfl, fun _ _ => rfl⟩, (by rw [hr]; rfl), rfl, rfl, trivial⟩, trivial⟩)
      exact ⟨Nat.zero_le _, rfl⟩
    · rintro ⟨i, a⟩ ⟨h1, h2⟩
      repeat' ((conv => whnf); first | (refine And.intro ?_ ?_) | (intro _) | (apply call0_ (g := 23); refine call_sLogReal []  rfl ⟨⟨rfl, rfl, fun _ _ => rfl⟩, trivial⟩ trivial (by first | exact trivial | exact ⟨trivial, trivial⟩) ?_ ?_))
      all_goals (try simp only [Int.toNat_natCast] at *)
      all_goals first | omega | skip
      · conv => whnf
        apply loop_ (fun ((k, c) : (Nat) × (Bool)) => i < L.length ∧ k ≤ i ∧ c = (allTo (realI L) i && allTo (realAt L i) k)) (fun ((k, c) : (Nat) × (Bool)) => (⟨57, [(3, lst 6 eEntry L), (4, bl (realB L)), (5, bl c), (6, int i), (7, int k)], [], []⟩ : St)) (fun ((k, c) : (Nat) × (Bool)) => i - k)
        · (apply to_ []; apply toAt_ [] (0, a); rotate_left 1; exact ⟨rfl, rfl, rfl, rfl, ⟨⟨rfl, rfl, fun _ _ => rfl⟩, rfl, rfl, rfl, rfl, trivial⟩, trivial⟩)
          exact ⟨by omega, Nat.zero_le _, by rw [h2]; exact (Bool.and_true _).symm⟩
        · rintro ⟨k, c⟩ ⟨g0, g1, g2⟩
          cases c with
          | true =>
            repeat' ((conv => whnf); first | (refine And.intro ?_ ?_) | (intro _) | (apply call0_ (g := 24); refine call_lqAhead [] (a := L.getD i default) (e := L.getD k default) rfl ⟨⟨rfl, rfl, rfl, ⟨rfl, rfl, fun _ _ => rfl⟩, ⟨rfl, rfl, fun _ _ => rfl⟩, rfl, trivial⟩, ⟨rfl, rfl, rfl, ⟨rfl, rfl, fun _ _ => rfl⟩, ⟨rfl, rfl, fun _ _ => rfl⟩, rfl, trivial⟩, trivial⟩ trivial (by first | exact trivial | exact ⟨trivial, trivial⟩) ?_ ?_))
            all_goals (try simp only [Int.toNat_natCast] at *)
            all_goals first | omega | skip
            all_goals (conv => whnf)
            · rename_i hj hf hah
              (apply to_ []; apply toAt_ [] (k + 1, false); rotate_left 1; exact ⟨rfl, rfl, rfl, rfl, ⟨⟨rfl, rfl, fun _ _ => rfl⟩, rfl, rfl, rfl, rfl, trivial⟩, trivial⟩)
              refine ⟨⟨g0, by omega, ?_⟩, by (try simp only); omega⟩
              rw [allTo_succ, realAt_yes (by omega) hah, Bool.and_false, Bool.and_false]
            · rename_i hj hf hah
              (apply to_ []; apply toAt_ [] (k + 1, true); rotate_left 1; exact ⟨rfl, rfl, rfl, rfl, ⟨⟨rfl, rfl, fun _ _ => rfl⟩, rfl, rfl, rfl, rfl, trivial⟩, trivial⟩)
              refine ⟨⟨g0, by omega, ?_⟩, by (try simp only); omega⟩
              rw [allTo_succ, realAt_no hah, Bool.and_true]; exact g2
            all_goals
              (apply to_ []; apply toAt_ [] (i + 1, true); rotate_left 1; exact ⟨rfl, rfl, rfl, rfl, ⟨⟨rfl, rfl, fun _ _ => rfl⟩, rfl, rfl, rfl, trivial⟩, trivial⟩)
              refine ⟨⟨by omega, ?_⟩, by (try simp only); omega⟩
              rw [allTo_succ]
            · have : k = i := by omega
              subst this; exact g2
            · rw [← allTo_far g1 (by omega)]; exact g2
          | false =>
            repeat' ((conv => whnf); first | (refine And.intro ?_ ?_) | (intro _))
            all_goals (try simp only [Int.toNat_natCast] at *)
            all_goals first | omega | skip
            all_goals (conv => whnf)
            · (apply to_ []; apply toAt_ [] (k + 1, false); rotate_left 1; exact ⟨rfl, rfl, rfl, rfl, ⟨⟨rfl, rfl, fun _ _ => rfl⟩, rfl, rfl, rfl, rfl, trivial⟩, trivial⟩)
              refine ⟨⟨g0, by omega, ?_⟩, by (try simp only); omega⟩
              rw [allTo_succ, ← Bool.and_assoc, ← g2]; rfl
            all_goals
              (apply to_ []; apply toAt_ [] (i + 1, false); rotate_left 1; exact ⟨rfl, rfl, rfl, rfl, ⟨⟨rfl, rfl, fun _ _ => rfl⟩, rfl, rfl, rfl, trivial⟩, trivial⟩)
              refine ⟨⟨by omega, ?_⟩, by (try simp only); omega⟩
              rw [allTo_succ]
            · have : k = i := by omega
              subst this; exact g2
            · rw [← allTo_far g1 (by omega)]; exact g2
      all_goals
        rename_i hb2
        have ei : i = L.length := by omega
        have ha : a = realB L := by rw [h2, ei]; rfl
        rw [hb2] at ha
        subst ha
        simp only [hb2]
        conv => whnf
        repeat' ((conv => whnf); first | (refine And.intro ?_ ?_) | (intro _))
        all_goals first
        | contradiction
        | (conv => whnf
           apply ret_ []
           apply retAt0 (r := bl true)
           · rfl
           · exact ⟨rfl, rfl⟩)
theorem callx_FnLogReal {al0 : Lim} {s0 : St} {as0 : List Operand} {d0 : Option Tmp} {K0 : St → Prop} {n : Nat} {b : Nat → Int} (ρ : List Sel) (cok_ : CallOK prog 5 [bytes n b] [] (fun r os => os = [] ∧ r = bl true)) (cn_ : nodupB (keysOf ρ) = true) (ca_ : tvsLe ρ s0.loc.length (as0.map (ev s0)) [bytes n b]) (co_ : locLe ρ s0.loc.length s0.loc s0.fz ρ []) (cl_ : limP al0 s0.loc ρ True) (ck_ : placesK s0.loc ρ ([].map (AObj.up ρ s0.loc.length)) fun loc' => s0.afterK loc' d0 ((bl true : TV).up ρ s0.loc.length) K0) : CallAt prog al0 s0 5 as0 d0 K0 :=
  callB ρ cok_ cn_ ca_ co_ cl_ (by rintro r os ⟨rfl, rfl⟩; exact ck_ )
theorem call_FnLogReal {al0 : Lim} {s0 : St} {as0 : List Operand} {d0 : Option Tmp} {K0 : St → Prop} {n : Nat} {b : Nat → Int} (ρ : List Sel) (hb : ∀ i, 0 ≤ b i ∧ b i < 256) (cn_ : nodupB (keysOf ρ) = true) (ca_ : tvsLe ρ s0.loc.length (as0.map (ev s0)) [bytes n b]) (co_ : locLe ρ s0.loc.length s0.loc s0.fz ρ []) (cl_ : limP al0 s0.loc ρ True) (ck_ : placesK s0.loc ρ ([].map (AObj.up ρ s0.loc.length)) fun loc' => s0.afterK loc' d0 ((bl true : TV).up ρ s0.loc.length) K0) : CallAt prog al0 s0 5 as0 d0 K0 :=
  callx_FnLogReal ρ (FnLogReal_ok n b hb) cn_ ca_ co_ cl_ ck_
end Go.Proofs.AYT
