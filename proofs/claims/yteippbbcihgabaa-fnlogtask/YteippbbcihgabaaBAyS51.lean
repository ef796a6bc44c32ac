/- Plain words, and contracts of the program's functions. Conditions: as each theorem tells. -/
import Derived.Test.YteippbbcihgabaaBAyS46
import Derived.Test.YteippbbcihgabaaAyB16
import Derived.Test.YteippbbcihgabaaBAyQk
set_option linter.unusedVariables false
set_option linter.unusedSimpArgs false
set_option linter.unusedSectionVars false
namespace Go.Proofs.AYT
open Go Go.Proofs.AY Go.Proofs.Try
theorem DrawLogTask_ok (n : Nat) (b : Nat → Int) (hb : ∀ i, 0 ≤ b i ∧ b i < 256) : CallOK prog 30 [bytes n b] [] (fun r os => ∃ (L : List Entry) (t : Int), os = [] ∧ r = .t [.c (dl 6 eEntry L), .c (iv t)] ∧ (taskG L)) := by
  refine fn_ (D := []) [] tab_ok hmo func30 rfl rfl rfl rfl ?_
  repeat' ((conv => whnf); first | (refine And.intro ?_ ?_) | (intro _) | (apply call0_ (g := 49); refine call_l6Open [] hb rfl ⟨⟨rfl, rfl, fun _ _ => rfl⟩, trivial⟩ trivial (by first | exact trivial | exact ⟨trivial, trivial⟩) ?_) | (apply call0_ (g := 60); refine call_l71Log [.all 0] (by omega) rfl ⟨rfl, trivial⟩ ⟨⟨trivial, rfl, ⟨rfl, rfl, fun _ _ => rfl⟩, rfl, trivial⟩, trivial⟩ (by first | exact trivial | exact ⟨⟨rfl, Nat.le_refl _, trivial⟩, trivial⟩ | exact ⟨⟨rfl, trivial, trivial⟩, trivial⟩) ?_) | (apply call0_ (g := 52); refine call_pick [.all 0] (by omega) rfl ⟨rfl, rfl, trivial⟩ ⟨⟨trivial, rfl, ⟨rfl, rfl, fun _ _ => rfl⟩, rfl, trivial⟩, trivial⟩ (by first | exact trivial | exact ⟨⟨rfl, Nat.le_refl _, trivial⟩, trivial⟩ | exact ⟨⟨rfl, trivial, trivial⟩, trivial⟩) ?_))
  all_goals first | omega | skip
  rename_i R q' P L hq hL v h0 h1
  conv => whnf
  apply ret_ []
  apply retAt0 (r := .t [.c (dl 6 eEntry L), .c (iv v)])
  · exact ⟨⟨rfl, rfl, fun _ _ => rfl⟩, rfl, trivial⟩
  · exact ⟨L, v, rfl, rfl, hL.tg⟩
theorem callx_DrawLogTask {al0 : Lim} {s0 : St} {as0 : List Operand} {d0 : Option Tmp} {K0 : St → Prop} {n : Nat} {b : Nat → Int} (ρ : List Sel) (cok_ : CallOK prog 30 [bytes n b] [] (fun r os => ∃ (L : List Entry) (t : Int), os = [] ∧ r = .t [.c (dl 6 eEntry L), .c (iv t)] ∧ (taskG L))) (cn_ : nodupB (keysOf ρ) = true) (ca_ : tvsLe ρ s0.loc.length (as0.map (ev s0)) [bytes n b]) (co_ : locLe ρ s0.loc.length s0.loc s0.fz ρ []) (cl_ : limP al0 s0.loc ρ True) (ck_ : ∀ (L : List Entry) (t : Int), (taskG L) → placesK s0.loc ρ ([].map (AObj.up ρ s0.loc.length)) fun loc' => s0.afterK loc' d0 ((.t [.c (dl 6 eEntry L), .c (iv t)] : TV).up ρ s0.loc.length) K0) : CallAt prog al0 s0 30 as0 d0 K0 :=
  callB ρ cok_ cn_ ca_ co_ cl_ (by rintro r os ⟨L, t, rfl, rfl, hf0⟩; exact ck_ L t hf0)
theorem call_DrawLogTask {al0 : Lim} {s0 : St} {as0 : List Operand} {d0 : Option Tmp} {K0 : St → Prop} {n : Nat} {b : Nat → Int} (ρ : List Sel) (hb : ∀ i, 0 ≤ b i ∧ b i < 256) (cn_ : nodupB (keysOf ρ) = true) (ca_ : tvsLe ρ s0.loc.length (as0.map (ev s0)) [bytes n b]) (co_ : locLe ρ s0.loc.length s0.loc s0.fz ρ []) (cl_ : limP al0 s0.loc ρ True) (ck_ : ∀ (L : List Entry) (t : Int), (taskG L) → placesK s0.loc ρ ([].map (AObj.up ρ s0.loc.length)) fun loc' => s0.afterK loc' d0 ((.t [.c (dl 6 eEntry L), .c (iv t)] : TV).up ρ s0.loc.length) K0) : CallAt prog al0 s0 30 as0 d0 K0 :=
  callx_DrawLogTask ρ (DrawLogTask_ok n b hb) cn_ ca_ co_ cl_ ck_
def plans8 : Plans := [(15, ⟨.take 0 false (.take 1 false (.take 2 false (.take 3 false (.take 5 false (.take 4 true (.take 6 false (.take 7 false (.take 8 false (.take 9 false (.take 10 false (.take 11 false (.take 12 false (.take 13 false (.take 14 false (.take 15 false (.take 17 false (.take 18 false (.take 19 false (.take 20 false (.take 16 true (.take 21 true (.take 22 false (.take 23 false (.take 24 false .done)))))))))))))))))))))))), [], []⟩)]
theorem plans8_ok : plansOk plans8 (bodyOf f8) = true := by kernel_rfl
theorem FnLogTask_ok (n : Nat) (b : Nat → Int) (hb : ∀ i, 0 ≤ b i ∧ b i < 256) : CallOK prog 8 [bytes n b] [] (fun r os => os = [] ∧ r = bl true) := by
  refine fn_ [] tab_ok hmo func8 rfl rfl plans8_ok rfl ?_
  repeat' ((conv => whnf); first | (refine And.intro ?_ ?_) | (intro _) | (apply call0_ (g := 30); refine call_DrawLogTask [] hb rfl ⟨⟨rfl, rfl, fun _ _ => rfl⟩, trivial⟩ trivial (by first | exact trivial | exact ⟨trivial, trivial⟩) ?_))
  all_goals first | omega | skip
  · ((conv => whnf); apply ret_ []; apply retAt0 (r := bl true); rfl; exact ⟨rfl, rfl⟩)
  · rename_i L t hL
    have hl1 : L.length ≤ 1000000000 := by have := hL.hl; omega
    have hl := hL.hl
    have hs := hL.hs
    conv => whnf
    repeat' ((conv => whnf); first | (refine And.intro ?_ ?_) | (intro _) | (apply call0_ (g := 31); refine call_iLogTask [] hl1 hs rfl ⟨⟨rfl, rfl, fun _ _ => rfl⟩, rfl, trivial⟩ trivial (by first | exact trivial | exact ⟨trivial, trivial⟩) ?_) | (apply call0_ (g := 33); refine call_sLogTask [] hl1 hs rfl ⟨⟨rfl, rfl, fun _ _ => rfl⟩, rfl, trivial⟩ trivial (by first | exact trivial | exact ⟨trivial, trivial⟩) ?_) | (apply call0_ (g := 32); refine call_lqLog []  rfl ⟨⟨rfl, rfl, fun _ _ => rfl⟩, ⟨rfl, rfl, fun _ _ => rfl⟩, trivial⟩ trivial (by first | exact trivial | exact ⟨trivial, trivial⟩) ?_ ?_))
    all_goals first | (exact absurd rfl (by assumption)) | skip
    conv => whnf
    apply loop_ (fun k : Nat => k ≤ 7) (fun k : Nat => (⟨71, [(3, lst 6 eEntry L), (5, lst 6 eEntry (taskL L t)), (4, int t), (6, int (tasksN L k)), (7, int k)], [], []⟩ : St)) (fun k : Nat => 7 - k)
    · (apply to_ []; apply toAt_ [] 0; rotate_left 1; exact ⟨rfl, rfl, rfl, rfl, ⟨⟨rfl, rfl, fun _ _ => rfl⟩, ⟨rfl, rfl, fun _ _ => rfl⟩, rfl, rfl, rfl, trivial⟩, trivial⟩)
      exact Nat.zero_le _
    · rintro k hk
      have hm : (taskL L k).length ≤ L.length := taskL_len L k
      have hN := tasksN_le hl k
      repeat' ((conv => whnf); first | (refine And.intro ?_ ?_) | (intro _) | (apply call0_ (g := 31); refine call_iLogTask [] (t := (k : Int)) hl1 hs rfl ⟨⟨rfl, rfl, fun _ _ => rfl⟩, rfl, trivial⟩ trivial (by first | exact trivial | exact ⟨trivial, trivial⟩) ?_))
      all_goals (try simp only [Int.toNat_natCast] at *)
      all_goals first | omega | skip
      all_goals (conv => whnf)
      · (apply to_ []; apply toAt_ [] (k + 1); rotate_left 1; exact ⟨rfl, rfl, rfl, rfl, ⟨⟨rfl, rfl, fun _ _ => rfl⟩, ⟨rfl, rfl, fun _ _ => rfl⟩, rfl, leI (by simp only [tasksN]; omega) rfl, rfl, trivial⟩, trivial⟩)
        exact ⟨by omega, by omega⟩
      · have e7 : k = 7 := by omega
        subst e7
        have hM : (taskL L t).length ≤ L.length := taskL_len L t
        apply loop_ (fun i : Nat => i ≤ (taskL L t).length) (fun i : Nat => (⟨71, [(3, lst 6 eEntry L), (5, lst 6 eEntry (taskL L t)), (4, int t), (6, int (tasksN L 7)), (8, int i)], [], []⟩ : St)) (fun i : Nat => (taskL L t).length - i)
        · (apply to_ []; apply toAt_ [] 0; rotate_left 1; exact ⟨rfl, rfl, rfl, rfl, ⟨⟨rfl, rfl, fun _ _ => rfl⟩, ⟨rfl, rfl, fun _ _ => rfl⟩, rfl, rfl, rfl, trivial⟩, trivial⟩)
          exact Nat.zero_le _
        · rintro i hi
          have h1 : i < (taskL L t).length → ((taskL L t).getD i default).task = t := fun h => taskL_all h
          have h2 : i < (taskL L t).length → 0 < i → ((taskL L t).getD (i - 1) default).act < ((taskL L t).getD i default).act := fun h h0 => taskL_asc hL.ht h h0
          repeat' ((conv => whnf); first | (refine And.intro ?_ ?_) | (intro _))
          all_goals (try simp only [Int.toNat_natCast] at *)
          all_goals first | omega | skip
          all_goals (conv => whnf)
          all_goals first
          | (exfalso; rename_i a0; have e : ((i : Int) - 1).toNat = i - 1 := by omega
             have h3 := h2 (by omega) (by omega); rw [e] at a0; omega)
          | (exfalso; rename_i a0; exact a0 (h1 (by omega)))
          | ((apply to_ []; apply toAt_ [] (i + 1); rotate_left 1; exact ⟨rfl, rfl, rfl, rfl, ⟨⟨rfl, rfl, fun _ _ => rfl⟩, ⟨rfl, rfl, fun _ _ => rfl⟩, rfl, rfl, rfl, trivial⟩, trivial⟩)
             exact ⟨by omega, by omega⟩)
          | (exfalso; have e7 := tasksN_7 hL.ht; omega)
          | ((conv => whnf); apply ret_ []; apply retAt0 (r := bl true); rfl; exact ⟨rfl, rfl⟩)
theorem callx_FnLogTask {al0 : Lim} {s0 : St} {as0 : List Operand} {d0 : Option Tmp} {K0 : St → Prop} {n : Nat} {b : Nat → Int} (ρ : List Sel) (cok_ : CallOK prog 8 [bytes n b] [] (fun r os => os = [] ∧ r = bl true)) (cn_ : nodupB (keysOf ρ) = true) (ca_ : tvsLe ρ s0.loc.length (as0.map (ev s0)) [bytes n b]) (co_ : locLe ρ s0.loc.length s0.loc s0.fz ρ []) (cl_ : limP al0 s0.loc ρ True) (ck_ : placesK s0.loc ρ ([].map (AObj.up ρ s0.loc.length)) fun loc' => s0.afterK loc' d0 ((bl true : TV).up ρ s0.loc.length) K0) : CallAt prog al0 s0 8 as0 d0 K0 :=
  callB ρ cok_ cn_ ca_ co_ cl_ (by rintro r os ⟨rfl, rfl⟩; exact ck_ )
theorem call_FnLogTask {al0 : Lim} {s0 : St} {as0 : List Operand} {d0 : Option Tmp} {K0 : St → Prop} {n : Nat} {b : Nat → Int} (ρ : List Sel) (hb : ∀ i, 0 ≤ b i ∧ b i < 256) (cn_ : nodupB (keysOf ρ) = true) (ca_ : tvsLe ρ s0.loc.length (as0.map (ev s0)) [bytes n b]) (co_ : locLe ρ s0.loc.length s0.loc s0.fz ρ []) (cl_ : limP al0 s0.loc ρ True) (ck_ : placesK s0.loc ρ ([].map (AObj.up ρ s0.loc.length)) fun loc' => s0.afterK loc' d0 ((bl true : TV).up ρ s0.loc.length) K0) : CallAt prog al0 s0 8 as0 d0 K0 :=
  callx_FnLogTask ρ (FnLogTask_ok n b hb) cn_ ca_ co_ cl_ ck_
end Go.Proofs.AYT

