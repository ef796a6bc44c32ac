/- Plain words, and contracts of the program's functions. Conditions: as each theorem tells. -/
import Derived.Test.YteippbbcihgabaaAyS40
import Derived.Test.YteippbbcihgabaaAyQe
set_option linter.unusedVariables false
set_option linter.unusedSimpArgs false
set_option linter.unusedSectionVars false
namespace Go.Proofs.AYT
open Go Go.Proofs.AY Go.Proofs.Try
set_option maxRecDepth 100000 in
theorem FnLogRealCut_ok (n : Nat) (b : Nat → Int) (m : Nat) (c : Nat → Int) (hb : ∀ i, 0 ≤ b i ∧ b i < 256) (hc : ∀ i, 0 ≤ c i ∧ c i < 256) : CallOK prog 4 [bytes n b, bytes m c] [] (fun r os => os = [] ∧ r = bl true) := by
  refine fn_ (D := []) [] tab_ok hmo func4 rfl rfl rfl rfl ?_
  repeat' ((conv => whnf); first | (refine And.intro ?_ ?_) | (intro _) | (apply call0_ (g := 21); refine call_DrawLogReal [] hb rfl ⟨⟨rfl, rfl, fun _ _ => rfl⟩, trivial⟩ trivial (by first | exact trivial | exact ⟨trivial, trivial⟩) ?_) | (apply call0_ (g := 22); refine call_iLogReal []  rfl ⟨⟨rfl, rfl, fun _ _ => rfl⟩, trivial⟩ trivial (by first | exact trivial | exact ⟨trivial, trivial⟩) ?_ ?_) | (apply call0_ (g := 23); refine call_sLogReal []  rfl ⟨⟨rfl, rfl, fun _ _ => rfl⟩, trivial⟩ trivial (by first | exact trivial | exact ⟨trivial, trivial⟩) ?_ ?_))
  all_goals first | omega | skip
  · ((conv => whnf); apply ret_ []; apply retAt0 (r := bl true); rfl; exact ⟨rfl, rfl⟩)
  · ((conv => whnf); apply ret_ []; apply retAt0 (r := bl true); rfl; exact ⟨rfl, rfl⟩)
  · have := (logP.good (by assumption)).1; omega
  · exact (tmod_b _ _ (by omega)).1
  · exact Int.le_of_lt_add_one (tmod_b _ _ (by omega)).2
  · rename_i P L hL h1 h2 _ _
    have hk := tmod_b (m : Int) (L.length + 1) (by omega)
    obtain ⟨k, hk2⟩ : ∃ k, k = ((m : Int).tmod (L.length + 1)).toNat := ⟨_, rfl⟩
    have hlen : ((m : Int).tmod (L.length + 1)).toNat - 0 = (L.take k).length := by rw [List.length_take]; omega
    conv => whnf
    repeat' ((conv => whnf); first | (refine And.intro ?_ ?_) | (intro _) | (apply call0_ (g := 22); refine call_iLogReal [] (L := L.take k) rfl ⟨⟨rfl, hlen, take_enc eEntry L k⟩, trivial⟩ trivial (by first | exact trivial | exact ⟨trivial, trivial⟩) ?_ ?_) | (apply call0_ (g := 22); refine call_iLogReal [] (L := []) rfl ⟨rfl, trivial⟩ trivial (by first | exact trivial | exact ⟨trivial, trivial⟩) ?_ ?_))
    · ((conv => whnf); apply ret_ []; apply retAt0 (r := bl true); rfl; exact ⟨rfl, rfl⟩)
    · exact absurd (show realB [] = false by assumption) (by decide)
    · exact absurd (show realB (L.take k) = false by assumption) (by rw [realB_take h1]; decide)
  all_goals first
  | exact absurd ((show realB _ = true by assumption).symm.trans (show realB _ = false by assumption)) (by decide)
  | ((conv => whnf); apply ret_ []; apply retAt0 (r := bl true); rfl; exact ⟨rfl, rfl⟩)
theorem callx_FnLogRealCut {al0 : Lim} {s0 : St} {as0 : List Operand} {d0 : Option Tmp} {K0 : St → Prop} {n : Nat} {b : Nat → Int} {m : Nat} {c : Nat → Int} (ρ : List Sel) (cok_ : CallOK prog 4 [bytes n b, bytes m c] [] (fun r os => os = [] ∧ r = bl true)) (cn_ : nodupB (keysOf ρ) = true) (ca_ : tvsLe ρ s0.loc.length (as0.map (ev s0)) [bytes n b, bytes m c]) (co_ : locLe ρ s0.loc.length s0.loc s0.fz ρ []) (cl_ : limP al0 s0.loc ρ True) (ck_ : placesK s0.loc ρ ([].map (AObj.up ρ s0.loc.length)) fun loc' => s0.afterK loc' d0 ((bl true : TV).up ρ s0.loc.length) K0) : CallAt prog al0 s0 4 as0 d0 K0 :=
  callB ρ cok_ cn_ ca_ co_ cl_ (by rintro r os ⟨rfl, rfl⟩; exact ck_ )
theorem call_FnLogRealCut {al0 : Lim} {s0 : St} {as0 : List Operand} {d0 : Option Tmp} {K0 : St → Prop} {n : Nat} {b : Nat → Int} {m : Nat} {c : Nat → Int} (ρ : List Sel) (hb : ∀ i, 0 ≤ b i ∧ b i < 256) (hc : ∀ i, 0 ≤ c i ∧ c i < 256) (cn_ : nodupB (keysOf ρ) = true) (ca_ : tvsLe ρ s0.loc.length (as0.map (ev s0)) [bytes n b, bytes m c]) (co_ : locLe ρ s0.loc.length s0.loc s0.fz ρ []) (cl_ : limP al0 s0.loc ρ True) (ck_ : placesK s0.loc ρ ([].map (AObj.up ρ s0.loc.length)) fun loc' => s0.afterK loc' d0 ((bl true : TV).up ρ s0.loc.length) K0) : CallAt prog al0 s0 4 as0 d0 K0 :=
  callx_FnLogRealCut ρ (FnLogRealCut_ok n b m c hb hc) cn_ ca_ co_ cl_ ck_
end Go.Proofs.AYT

