/- A symbolic executor over the model, plain words, and contracts of the program's functions, part 6. Conditions: as each theorem tells. -/
import Derived.Test.YteippbbcihgabaaAyB05
import Derived.Test.YteippbbcihgabaaAyB03
set_option linter.unusedVariables false
set_option linter.unusedSimpArgs false
set_option linter.unusedSectionVars false
namespace Go.Proofs.AYT
open Go Go.Proofs.AY Go.Proofs.Try
theorem hmo : prog.follows .mixedOrders = true := by kernel_rfl
abbrev tt : TT := ttGet tab

theorem l6In_ok (x lo hi : Int) : CallOK prog 56 [int x, int lo, int hi] [] (fun r os => os = [] ∧ r = bl (decide (lo ≤ x ∧ x ≤ hi))) := by
  refine fn_ (D := []) [] tab_ok hmo func56 rfl rfl rfl rfl ?_
  repeat' ((conv => whnf); first | (refine And.intro ?_ ?_) | (intro _))
  all_goals (apply ret_ []; apply retAt0 (r := bl _); exact rfl; refine ⟨rfl, congrArg bl ?_⟩)
  · simp; omega
  · simp; omega
  · simp; omega
theorem callx_l6In {al0 : Lim} {s0 : St} {as0 : List Operand} {d0 : Option Tmp} {K0 : St → Prop} {x lo hi : Int} (ρ : List Sel) (cok_ : CallOK prog 56 [int x, int lo, int hi] [] (fun r os => os = [] ∧ r = bl (decide (lo ≤ x ∧ x ≤ hi)))) (cn_ : nodupB (keysOf ρ) = true) (ca_ : tvsLe ρ s0.loc.length (as0.map (ev s0)) [int x, int lo, int hi]) (co_ : locLe ρ s0.loc.length s0.loc s0.fz ρ []) (cl_ : limP al0 s0.loc ρ True) (cT_ : (lo ≤ x ∧ x ≤ hi) → placesK s0.loc ρ ([].map (AObj.up ρ s0.loc.length)) fun loc' => s0.afterK loc' d0 ((bl true : TV).up ρ s0.loc.length) K0) (cF_ : ¬ (lo ≤ x ∧ x ≤ hi) → placesK s0.loc ρ ([].map (AObj.up ρ s0.loc.length)) fun loc' => s0.afterK loc' d0 ((bl false : TV).up ρ s0.loc.length) K0) : CallAt prog al0 s0 56 as0 d0 K0 :=
  callB ρ cok_ cn_ ca_ co_ cl_ (by rintro r os ⟨rfl, rfl⟩; by_cases hb : (lo ≤ x ∧ x ≤ hi); rw [decide_eq_true hb]; exact cT_  hb ; rw [decide_eq_false hb]; exact cF_  hb )
theorem call_l6In {al0 : Lim} {s0 : St} {as0 : List Operand} {d0 : Option Tmp} {K0 : St → Prop} {x lo hi : Int} (ρ : List Sel) (cn_ : nodupB (keysOf ρ) = true) (ca_ : tvsLe ρ s0.loc.length (as0.map (ev s0)) [int x, int lo, int hi]) (co_ : locLe ρ s0.loc.length s0.loc s0.fz ρ []) (cl_ : limP al0 s0.loc ρ True) (cT_ : (lo ≤ x ∧ x ≤ hi) → placesK s0.loc ρ ([].map (AObj.up ρ s0.loc.length)) fun loc' => s0.afterK loc' d0 ((bl true : TV).up ρ s0.loc.length) K0) (cF_ : ¬ (lo ≤ x ∧ x ≤ hi) → placesK s0.loc ρ ([].map (AObj.up ρ s0.loc.length)) fun loc' => s0.afterK loc' d0 ((bl false : TV).up ρ s0.loc.length) K0) : CallAt prog al0 s0 56 as0 d0 K0 :=
  callx_l6In ρ (l6In_ok x lo hi) cn_ ca_ co_ cl_ cT_ cF_

theorem l1Deed_ok (d : Deed) (n : Int) (hn : 0 ≤ n ∧ n ≤ 9223372036854775807) : CallOK prog 108 [.a (eDeed d), int n] [] (fun r os => os = [] ∧ r = bl (deedOk d n)) := by
  refine fn_ (D := []) [] tab_ok hmo func108 rfl rfl rfl rfl ?_
  repeat' ((conv => whnf); first | (refine And.intro ?_ ?_) | (intro _) | (apply call0_ (g := 56); refine call_l6In []  rfl ⟨rfl, rfl, rfl, trivial⟩ trivial (by first | exact trivial | exact ⟨trivial, trivial⟩) ?_ ?_))
  all_goals first | omega | (apply ret_ []; apply retAt0 (r := bl _); exact rfl; refine ⟨rfl, congrArg bl ?_⟩)
  all_goals first
  | exact (decide_eq_true (by omega)).symm
  | exact (decide_eq_false (by omega)).symm
theorem callx_l1Deed {al0 : Lim} {s0 : St} {as0 : List Operand} {d0 : Option Tmp} {K0 : St → Prop} {d : Deed} {n : Int} (ρ : List Sel) (cok_ : CallOK prog 108 [.a (eDeed d), int n] [] (fun r os => os = [] ∧ r = bl (deedOk d n))) (cn_ : nodupB (keysOf ρ) = true) (ca_ : tvsLe ρ s0.loc.length (as0.map (ev s0)) [.a (eDeed d), int n]) (co_ : locLe ρ s0.loc.length s0.loc s0.fz ρ []) (cl_ : limP al0 s0.loc ρ True) (cT_ : (deedOk d n) = true → placesK s0.loc ρ ([].map (AObj.up ρ s0.loc.length)) fun loc' => s0.afterK loc' d0 ((bl true : TV).up ρ s0.loc.length) K0) (cF_ : (deedOk d n) = false → placesK s0.loc ρ ([].map (AObj.up ρ s0.loc.length)) fun loc' => s0.afterK loc' d0 ((bl false : TV).up ρ s0.loc.length) K0) : CallAt prog al0 s0 108 as0 d0 K0 :=
  callB ρ cok_ cn_ ca_ co_ cl_ (by rintro r os ⟨rfl, rfl⟩; cases hb : (deedOk d n) with | true => exact cT_  hb  | false => exact cF_  hb )
theorem call_l1Deed {al0 : Lim} {s0 : St} {as0 : List Operand} {d0 : Option Tmp} {K0 : St → Prop} {d : Deed} {n : Int} (ρ : List Sel) (hn : 0 ≤ n ∧ n ≤ 9223372036854775807) (cn_ : nodupB (keysOf ρ) = true) (ca_ : tvsLe ρ s0.loc.length (as0.map (ev s0)) [.a (eDeed d), int n]) (co_ : locLe ρ s0.loc.length s0.loc s0.fz ρ []) (cl_ : limP al0 s0.loc ρ True) (cT_ : (deedOk d n) = true → placesK s0.loc ρ ([].map (AObj.up ρ s0.loc.length)) fun loc' => s0.afterK loc' d0 ((bl true : TV).up ρ s0.loc.length) K0) (cF_ : (deedOk d n) = false → placesK s0.loc ρ ([].map (AObj.up ρ s0.loc.length)) fun loc' => s0.afterK loc' d0 ((bl false : TV).up ρ s0.loc.length) K0) : CallAt prog al0 s0 108 as0 d0 K0 :=
  callx_l1Deed ρ (l1Deed_ok d n hn) cn_ ca_ co_ cl_ cT_ cF_

theorem l1Kids_ok (kids : List Int) (body bodies : Int) (hn : 0 ≤ body ∧ body < 1000000) (hm : 0 ≤ bodies ∧ bodies ≤ 9223372036854775807) : CallOK prog 109 [lst 1 eI kids, int body, int bodies] [] (fun r os => os = [] ∧ r = bl (kidsOk kids body bodies)) := by
  refine fn_ (D := []) [] tab_ok hmo func109 rfl rfl rfl rfl ?_
  apply loop_ (fun i : Nat => i ≤ kids.length ∧ upTo (fun j => kidOk body bodies (kids.getD j default)) i) (fun i : Nat => (⟨27, [(0, lst 1 eI kids), (1, int body), (2, int bodies), (7, int i)], [], []⟩ : St)) (fun i : Nat => kids.length - i)
  · (apply to_ []; apply toAt_ [] 0; rotate_left 1; exact ⟨rfl, rfl, rfl, rfl, ⟨⟨rfl, rfl, fun _ _ => rfl⟩, rfl, rfl, rfl, trivial⟩, trivial⟩)
    exact ⟨Nat.zero_le _, upTo_zero _⟩
  · rintro i ⟨h1, h2⟩
    repeat' ((conv => whnf); first | (refine And.intro ?_ ?_) | (intro _) | (apply call0_ (g := 56); refine call_l6In []  rfl ⟨rfl, rfl, rfl, trivial⟩ trivial (by first | exact trivial | exact ⟨trivial, trivial⟩) ?_ ?_))
    all_goals first | omega | skip
    · (apply to_ []; apply toAt_ [] (i+1); rotate_left 1; exact ⟨rfl, rfl, rfl, rfl, ⟨⟨rfl, rfl, fun _ _ => rfl⟩, rfl, rfl, rfl, trivial⟩, trivial⟩)
      have hk : kidOk body bodies (kids.getD i default) = true := decide_eq_true (by assumption)
      exact ⟨⟨by omega, upTo_succ h2 hk⟩, by omega⟩
    · (apply ret_ []; apply retAt0 (r := bl _); exact rfl; refine ⟨rfl, congrArg bl ?_⟩)
      have hk : kidOk body bodies (kids.getD i default) = false := decide_eq_false (by assumption)
      unfold kidsOk
      rw [not_all (by omega) hk]; rfl
    · (apply ret_ []; apply retAt0 (r := bl _); exact rfl; refine ⟨rfl, congrArg bl ?_⟩)
      unfold kidsOk
      rw [all_of (fun j hj => h2 j (by omega)), decide_eq_true (by assumption)]; rfl
    · (apply ret_ []; apply retAt0 (r := bl _); exact rfl; refine ⟨rfl, congrArg bl ?_⟩)
      unfold kidsOk
      rw [all_of (fun j hj => h2 j (by omega)), decide_eq_false (by assumption)]; rfl
theorem callx_l1Kids {al0 : Lim} {s0 : St} {as0 : List Operand} {d0 : Option Tmp} {K0 : St → Prop} {kids : List Int} {body bodies : Int} (ρ : List Sel) (cok_ : CallOK prog 109 [lst 1 eI kids, int body, int bodies] [] (fun r os => os = [] ∧ r = bl (kidsOk kids body bodies))) (cn_ : nodupB (keysOf ρ) = true) (ca_ : tvsLe ρ s0.loc.length (as0.map (ev s0)) [lst 1 eI kids, int body, int bodies]) (co_ : locLe ρ s0.loc.length s0.loc s0.fz ρ []) (cl_ : limP al0 s0.loc ρ True) (cT_ : (kidsOk kids body bodies) = true → placesK s0.loc ρ ([].map (AObj.up ρ s0.loc.length)) fun loc' => s0.afterK loc' d0 ((bl true : TV).up ρ s0.loc.length) K0) (cF_ : (kidsOk kids body bodies) = false → placesK s0.loc ρ ([].map (AObj.up ρ s0.loc.length)) fun loc' => s0.afterK loc' d0 ((bl false : TV).up ρ s0.loc.length) K0) : CallAt prog al0 s0 109 as0 d0 K0 :=
  callB ρ cok_ cn_ ca_ co_ cl_ (by rintro r os ⟨rfl, rfl⟩; cases hb : (kidsOk kids body bodies) with | true => exact cT_  hb  | false => exact cF_  hb )
theorem call_l1Kids {al0 : Lim} {s0 : St} {as0 : List Operand} {d0 : Option Tmp} {K0 : St → Prop} {kids : List Int} {body bodies : Int} (ρ : List Sel) (hn : 0 ≤ body ∧ body < 1000000) (hm : 0 ≤ bodies ∧ bodies ≤ 9223372036854775807) (cn_ : nodupB (keysOf ρ) = true) (ca_ : tvsLe ρ s0.loc.length (as0.map (ev s0)) [lst 1 eI kids, int body, int bodies]) (co_ : locLe ρ s0.loc.length s0.loc s0.fz ρ []) (cl_ : limP al0 s0.loc ρ True) (cT_ : (kidsOk kids body bodies) = true → placesK s0.loc ρ ([].map (AObj.up ρ s0.loc.length)) fun loc' => s0.afterK loc' d0 ((bl true : TV).up ρ s0.loc.length) K0) (cF_ : (kidsOk kids body bodies) = false → placesK s0.loc ρ ([].map (AObj.up ρ s0.loc.length)) fun loc' => s0.afterK loc' d0 ((bl false : TV).up ρ s0.loc.length) K0) : CallAt prog al0 s0 109 as0 d0 K0 :=
  callx_l1Kids ρ (l1Kids_ok kids body bodies hn hm) cn_ ca_ co_ cl_ cT_ cF_

def plans96 : Plans := [(8, ⟨.take 0 false (.take 2 false (.take 5 false (.take 1 true (.take 3 false (.take 4 true (.take 6 true (.take 7 false (.alt 8 (.take 9 false .done) .done)))))))), [], []⟩)]
theorem plans96_ok : plansOk plans96 (bodyOf f96) = true := by kernel_rfl
theorem l1Act_ok (p : DProg) (body : Int) (a : DAct) (hn : 0 ≤ body ∧ body < 1000000) : CallOK prog 96 [.a (eProg p), int body, .a (eAct a)] [] (fun r os => os = [] ∧ r = bl (actOk p body a)) := by
  refine fn_ [3] tab_ok hmo func96 rfl rfl plans96_ok rfl ?_
  apply cut_ (fun u : Unit => ¬ ((a.kind ≠ 1 ∧ 0 < (a.deeds.length : Int)) ∨ (a.kind ≠ 2 ∧ 0 < (a.kids.length : Int)) ∨ (a.kind ≠ 4 ∧ a.reg ≠ 0))) (fun u : Unit => (⟨79, [(3, ptr 0), (5, ptr 1), (1, int body)], [.box 44 (eProg p), .box 99 (eAct a)], []⟩ : St))
  · repeat' ((conv => whnf); first | (refine And.intro ?_ ?_) | (intro _))
    all_goals first
    | ((apply to_ []; apply toAt_ [.all 0, .all 1] (); rotate_left 1; exact ⟨rfl, rfl, rfl, rfl, ⟨rfl, rfl, rfl, trivial⟩, ⟨trivial, rfl, ⟨rfl, rfl, fun _ _ => rfl⟩, ⟨rfl, rfl, fun _ _ => rfl⟩, trivial⟩, ⟨trivial, rfl, rfl, ⟨rfl, rfl, fun _ _ => rfl⟩, ⟨rfl, rfl, fun _ _ => rfl⟩, rfl, trivial⟩, trivial⟩); clear hn; show ¬ (_ ∨ _ ∨ _); omega)
    | ((apply ret_ []; apply retAt0 (r := bl _); exact rfl; refine ⟨rfl, congrArg bl ?_⟩); unfold actOk; rw [if_pos (by omega)])
  · intro _ h0
    unfold actOk
    rw [if_neg h0]
    repeat' ((conv => whnf); first | (refine And.intro ?_ ?_) | (intro _) | (apply call0_ (g := 56); refine call_l6In []  rfl ⟨rfl, rfl, rfl, trivial⟩ trivial (by first | exact trivial | exact ⟨trivial, trivial⟩) ?_ ?_) | (apply call0_ (g := 109); refine call_l1Kids [] (by omega) (by omega) rfl ⟨⟨rfl, rfl, fun _ _ => rfl⟩, rfl, rfl, trivial⟩ trivial (by first | exact trivial | exact ⟨trivial, trivial⟩) ?_ ?_))
    all_goals first | omega | skip
    · apply loop_ (fun i : Nat => i ≤ a.deeds.length ∧ upTo (fun j => deedOk (a.deeds.getD j default) p.cells.length) i) (fun i : Nat => (⟨79, [(3, ptr 0), (5, ptr 1), (1, int body), (7, int i)], [.box 44 (eProg p), .box 99 (eAct a)], []⟩ : St)) (fun i : Nat => a.deeds.length - i)
      · (apply to_ []; apply toAt_ [.all 0, .all 1] 0; rotate_left 1; exact ⟨rfl, rfl, rfl, rfl, ⟨rfl, rfl, rfl, rfl, trivial⟩, ⟨trivial, rfl, ⟨rfl, rfl, fun _ _ => rfl⟩, ⟨rfl, rfl, fun _ _ => rfl⟩, trivial⟩, ⟨trivial, rfl, rfl, ⟨rfl, rfl, fun _ _ => rfl⟩, ⟨rfl, rfl, fun _ _ => rfl⟩, rfl, trivial⟩, trivial⟩)
        exact ⟨Nat.zero_le _, upTo_zero _⟩
      · rintro i ⟨h1, h2⟩
        repeat' ((conv => whnf); first | (refine And.intro ?_ ?_) | (intro _) | (apply call0_ (g := 108); refine call_l1Deed [] (by omega) rfl ⟨⟨rfl, rfl, rfl, trivial⟩, rfl, trivial⟩ trivial (by first | exact trivial | exact ⟨trivial, trivial⟩) ?_ ?_))
        all_goals first | omega | skip
        · rename_i hk
          (apply to_ []; apply toAt_ [.all 0, .all 1] (i+1); rotate_left 1; exact ⟨rfl, rfl, rfl, rfl, ⟨rfl, rfl, rfl, rfl, trivial⟩, ⟨trivial, rfl, ⟨rfl, rfl, fun _ _ => rfl⟩, ⟨rfl, rfl, fun _ _ => rfl⟩, trivial⟩, ⟨trivial, rfl, rfl, ⟨rfl, rfl, fun _ _ => rfl⟩, ⟨rfl, rfl, fun _ _ => rfl⟩, rfl, trivial⟩, trivial⟩)
          exact ⟨⟨by omega, upTo_succ h2 hk⟩, by omega⟩
        · rename_i hk
          (apply ret_ []; apply retAt0 (r := bl _); exact rfl; refine ⟨rfl, congrArg bl ?_⟩)
          rw [if_pos (by assumption), not_all (by omega) hk]; rfl
        · (apply ret_ []; apply retAt0 (r := bl _); exact rfl; refine ⟨rfl, congrArg bl ?_⟩)
          rw [if_pos (by assumption), all_of (fun j hj => h2 j (by omega)), decide_eq_true (by omega)]; rfl
        · (apply ret_ []; apply retAt0 (r := bl _); exact rfl; refine ⟨rfl, congrArg bl ?_⟩)
          rw [if_pos (by assumption), decide_eq_false (by omega), Bool.and_false]
    · (apply ret_ []; apply retAt0 (r := bl _); exact rfl; refine ⟨rfl, congrArg bl ?_⟩)
      rename_i hk
      rw [if_neg (by omega), if_pos (by omega), hk]
    · (apply ret_ []; apply retAt0 (r := bl _); exact rfl; refine ⟨rfl, congrArg bl ?_⟩)
      rename_i hk
      rw [if_neg (by omega), if_pos (by omega), hk]
    · (apply ret_ []; apply retAt0 (r := bl _); exact rfl; refine ⟨rfl, congrArg bl ?_⟩)
      rw [if_neg (by omega), if_neg (by omega), if_pos (by omega)]
    · (apply ret_ []; apply retAt0 (r := bl _); exact rfl; refine ⟨rfl, congrArg bl ?_⟩)
      rw [if_neg (by omega), if_neg (by omega), if_neg (by omega), if_pos (by omega), decide_eq_true (by omega)]
    · (apply ret_ []; apply retAt0 (r := bl _); exact rfl; refine ⟨rfl, congrArg bl ?_⟩)
      rw [if_neg (by omega), if_neg (by omega), if_neg (by omega), if_pos (by omega), decide_eq_false (by omega)]
    · (apply ret_ []; apply retAt0 (r := bl _); exact rfl; refine ⟨rfl, congrArg bl ?_⟩)
      rw [if_neg (by omega), if_neg (by omega), if_neg (by omega), if_neg (by omega)]
theorem callx_l1Act {al0 : Lim} {s0 : St} {as0 : List Operand} {d0 : Option Tmp} {K0 : St → Prop} {p : DProg} {body : Int} {a : DAct} (ρ : List Sel) (cok_ : CallOK prog 96 [.a (eProg p), int body, .a (eAct a)] [] (fun r os => os = [] ∧ r = bl (actOk p body a))) (cn_ : nodupB (keysOf ρ) = true) (ca_ : tvsLe ρ s0.loc.length (as0.map (ev s0)) [.a (eProg p), int body, .a (eAct a)]) (co_ : locLe ρ s0.loc.length s0.loc s0.fz ρ []) (cl_ : limP al0 s0.loc ρ True) (cT_ : (actOk p body a) = true → placesK s0.loc ρ ([].map (AObj.up ρ s0.loc.length)) fun loc' => s0.afterK loc' d0 ((bl true : TV).up ρ s0.loc.length) K0) (cF_ : (actOk p body a) = false → placesK s0.loc ρ ([].map (AObj.up ρ s0.loc.length)) fun loc' => s0.afterK loc' d0 ((bl false : TV).up ρ s0.loc.length) K0) : CallAt prog al0 s0 96 as0 d0 K0 :=
  callB ρ cok_ cn_ ca_ co_ cl_ (by rintro r os ⟨rfl, rfl⟩; cases hb : (actOk p body a) with | true => exact cT_  hb  | false => exact cF_  hb )
theorem call_l1Act {al0 : Lim} {s0 : St} {as0 : List Operand} {d0 : Option Tmp} {K0 : St → Prop} {p : DProg} {body : Int} {a : DAct} (ρ : List Sel) (hn : 0 ≤ body ∧ body < 1000000) (cn_ : nodupB (keysOf ρ) = true) (ca_ : tvsLe ρ s0.loc.length (as0.map (ev s0)) [.a (eProg p), int body, .a (eAct a)]) (co_ : locLe ρ s0.loc.length s0.loc s0.fz ρ []) (cl_ : limP al0 s0.loc ρ True) (cT_ : (actOk p body a) = true → placesK s0.loc ρ ([].map (AObj.up ρ s0.loc.length)) fun loc' => s0.afterK loc' d0 ((bl true : TV).up ρ s0.loc.length) K0) (cF_ : (actOk p body a) = false → placesK s0.loc ρ ([].map (AObj.up ρ s0.loc.length)) fun loc' => s0.afterK loc' d0 ((bl false : TV).up ρ s0.loc.length) K0) : CallAt prog al0 s0 96 as0 d0 K0 :=
  callx_l1Act ρ (l1Act_ok p body a hn) cn_ ca_ co_ cl_ cT_ cF_

def plans77 : Plans := [(16, ⟨.take 1 false (.take 2 false (.take 4 false (.take 7 false (.take 0 true (.take 3 true (.take 5 false (.take 6 true (.take 8 false (.take 9 true (.alt 10 (.take 11 false .done) .done)))))))))), [], []⟩)]
theorem plans77_ok : plansOk plans77 (bodyOf f77) = true := by kernel_rfl
theorem l1Form_ok (p : DProg) : CallOK prog 77 [.a (eProg p)] [] (fun r os => os = [] ∧ r = bl (formOk p)) := by
  refine fn_ [] tab_ok hmo func77 rfl rfl plans77_ok rfl ?_
  unfold formOk
  repeat' ((conv => whnf); first | (refine And.intro ?_ ?_) | (intro _) | (apply call0_ (g := 56); refine call_l6In []  rfl ⟨rfl, rfl, rfl, trivial⟩ trivial (by first | exact trivial | exact ⟨trivial, trivial⟩) ?_ ?_))
  all_goals first | omega | ((apply ret_ []; apply retAt0 (r := bl _); exact rfl; refine ⟨rfl, congrArg bl ?_⟩); rw [decide_eq_false (by omega), Bool.false_and]) | skip
  rw [decide_eq_true (by omega), Bool.true_and]
  apply loop_ (fun i : Nat => i ≤ p.cells.length ∧ upTo (fun j => numOk (p.cells.getD j default)) i) (fun i : Nat => (⟨67, [(1, ptr 0), (3, int i)], [.box 44 (eProg p)], []⟩ : St)) (fun i : Nat => p.cells.length - i)
  · (apply to_ []; apply toAt_ [.all 0] 0; rotate_left 1; exact ⟨rfl, rfl, rfl, rfl, ⟨rfl, rfl, trivial⟩, ⟨trivial, rfl, ⟨rfl, rfl, fun _ _ => rfl⟩, ⟨rfl, rfl, fun _ _ => rfl⟩, trivial⟩, trivial⟩)
    exact ⟨Nat.zero_le _, upTo_zero _⟩
  · rintro i ⟨h1, h2⟩
    repeat' ((conv => whnf); first | (refine And.intro ?_ ?_) | (intro _) | (apply call0_ (g := 56); refine call_l6In []  rfl ⟨rfl, rfl, rfl, trivial⟩ trivial (by first | exact trivial | exact ⟨trivial, trivial⟩) ?_ ?_))
    all_goals first | omega | skip
    · (apply to_ []; apply toAt_ [.all 0] (i+1); rotate_left 1; exact ⟨rfl, rfl, rfl, rfl, ⟨rfl, rfl, trivial⟩, ⟨trivial, rfl, ⟨rfl, rfl, fun _ _ => rfl⟩, ⟨rfl, rfl, fun _ _ => rfl⟩, trivial⟩, trivial⟩)
      have hk : numOk (p.cells.getD i default) = true := decide_eq_true (by assumption)
      exact ⟨⟨by omega, upTo_succ h2 hk⟩, by omega⟩
    · (apply ret_ []; apply retAt0 (r := bl _); exact rfl; refine ⟨rfl, congrArg bl ?_⟩)
      have hk : numOk (p.cells.getD i default) = false := decide_eq_false (by assumption)
      rw [not_all (by omega) hk, Bool.false_and]
    · rw [all_of (fun j hj => h2 j (by omega)), Bool.true_and]
      apply loop_ (fun k : Nat => k ≤ p.bodies.length ∧ upTo (bodyOk p) k) (fun k : Nat => (⟨67, [(1, ptr 0), (4, int k)], [.box 44 (eProg p)], []⟩ : St)) (fun k : Nat => p.bodies.length - k)
      · (apply to_ []; apply toAt_ [.all 0] 0; rotate_left 1; exact ⟨rfl, rfl, rfl, rfl, ⟨rfl, rfl, trivial⟩, ⟨trivial, rfl, ⟨rfl, rfl, fun _ _ => rfl⟩, ⟨rfl, rfl, fun _ _ => rfl⟩, trivial⟩, trivial⟩)
        exact ⟨Nat.zero_le _, upTo_zero _⟩
      · rintro k ⟨g1, g2⟩
        repeat' ((conv => whnf); first | (refine And.intro ?_ ?_) | (intro _))
        all_goals (try simp only [Int.toNat_natCast] at *)
        all_goals first | omega | skip
        · (apply ret_ []; apply retAt0 (r := bl _); exact rfl; refine ⟨rfl, congrArg bl ?_⟩)
          have hk : bodyOk p k = false := by unfold bodyOk; rw [decide_eq_false (by omega), Bool.false_and]
          rw [allTo_not (by omega) hk]
        · apply loop_ (fun q : Nat => q ≤ (p.bodies.getD k default).length ∧ upTo (fun j => actOk p k ((p.bodies.getD k default).getD j default)) q) (fun q : Nat => (⟨67, [(1, ptr 0), (4, int k), (5, int q)], [.box 44 (eProg p)], []⟩ : St)) (fun q : Nat => (p.bodies.getD k default).length - q)
          · (apply to_ []; apply toAt_ [.all 0] 0; rotate_left 1; exact ⟨rfl, rfl, rfl, rfl, ⟨rfl, rfl, rfl, trivial⟩, ⟨trivial, rfl, ⟨rfl, rfl, fun _ _ => rfl⟩, ⟨rfl, rfl, fun _ _ => rfl⟩, trivial⟩, trivial⟩)
            exact ⟨Nat.zero_le _, upTo_zero _⟩
          · rintro q ⟨f1, f2⟩
            repeat' ((conv => whnf); first | (refine And.intro ?_ ?_) | (intro _) | (apply call0_ (g := 96); refine call_l1Act [] (by omega) rfl ⟨⟨⟨rfl, rfl, fun _ _ => rfl⟩, ⟨rfl, rfl, fun _ _ => rfl⟩, trivial⟩, rfl, ⟨rfl, ⟨rfl, rfl, fun _ _ => rfl⟩, ⟨rfl, rfl, fun _ _ => rfl⟩, rfl, trivial⟩, trivial⟩ trivial (by first | exact trivial | exact ⟨trivial, trivial⟩) ?_ ?_))
            all_goals (try simp only [Int.toNat_natCast] at *)
            all_goals first | omega | skip
            · rename_i hk
              (apply to_ []; apply toAt_ [.all 0] (q+1); rotate_left 1; exact ⟨rfl, rfl, rfl, rfl, ⟨rfl, rfl, rfl, trivial⟩, ⟨trivial, rfl, ⟨rfl, rfl, fun _ _ => rfl⟩, ⟨rfl, rfl, fun _ _ => rfl⟩, trivial⟩, trivial⟩)
              exact ⟨⟨by omega, upTo_succ f2 hk⟩, by omega⟩
            · rename_i hk
              (apply ret_ []; apply retAt0 (r := bl _); exact rfl; refine ⟨rfl, congrArg bl ?_⟩)
              have hk : bodyOk p k = false := by unfold bodyOk; rw [not_all (by omega) hk, Bool.and_false]
              rw [allTo_not (by omega) hk]
            · have hk : bodyOk p k = true := by unfold bodyOk; rw [all_of (fun j hj => f2 j (by omega)), Bool.and_true]; exact decide_eq_true (by omega)
              (apply to_ []; apply toAt_ [.all 0] (k+1); rotate_left 1; exact ⟨rfl, rfl, rfl, rfl, ⟨rfl, rfl, trivial⟩, ⟨trivial, rfl, ⟨rfl, rfl, fun _ _ => rfl⟩, ⟨rfl, rfl, fun _ _ => rfl⟩, trivial⟩, trivial⟩)
              exact ⟨⟨by omega, upTo_succ g2 hk⟩, by omega⟩
        · (apply ret_ []; apply retAt0 (r := bl _); exact rfl; refine ⟨rfl, congrArg bl ?_⟩)
          rw [allTo_of (fun j hj => g2 j (by omega))]
theorem callx_l1Form {al0 : Lim} {s0 : St} {as0 : List Operand} {d0 : Option Tmp} {K0 : St → Prop} {p : DProg} (ρ : List Sel) (cok_ : CallOK prog 77 [.a (eProg p)] [] (fun r os => os = [] ∧ r = bl (formOk p))) (cn_ : nodupB (keysOf ρ) = true) (ca_ : tvsLe ρ s0.loc.length (as0.map (ev s0)) [.a (eProg p)]) (co_ : locLe ρ s0.loc.length s0.loc s0.fz ρ []) (cl_ : limP al0 s0.loc ρ True) (cT_ : (formOk p) = true → placesK s0.loc ρ ([].map (AObj.up ρ s0.loc.length)) fun loc' => s0.afterK loc' d0 ((bl true : TV).up ρ s0.loc.length) K0) (cF_ : (formOk p) = false → placesK s0.loc ρ ([].map (AObj.up ρ s0.loc.length)) fun loc' => s0.afterK loc' d0 ((bl false : TV).up ρ s0.loc.length) K0) : CallAt prog al0 s0 77 as0 d0 K0 :=
  callB ρ cok_ cn_ ca_ co_ cl_ (by rintro r os ⟨rfl, rfl⟩; cases hb : (formOk p) with | true => exact cT_  hb  | false => exact cF_  hb )
theorem call_l1Form {al0 : Lim} {s0 : St} {as0 : List Operand} {d0 : Option Tmp} {K0 : St → Prop} {p : DProg} (ρ : List Sel) (cn_ : nodupB (keysOf ρ) = true) (ca_ : tvsLe ρ s0.loc.length (as0.map (ev s0)) [.a (eProg p)]) (co_ : locLe ρ s0.loc.length s0.loc s0.fz ρ []) (cl_ : limP al0 s0.loc ρ True) (cT_ : (formOk p) = true → placesK s0.loc ρ ([].map (AObj.up ρ s0.loc.length)) fun loc' => s0.afterK loc' d0 ((bl true : TV).up ρ s0.loc.length) K0) (cF_ : (formOk p) = false → placesK s0.loc ρ ([].map (AObj.up ρ s0.loc.length)) fun loc' => s0.afterK loc' d0 ((bl false : TV).up ρ s0.loc.length) K0) : CallAt prog al0 s0 77 as0 d0 K0 :=
  callx_l1Form ρ (l1Form_ok p) cn_ ca_ co_ cl_ cT_ cF_

/-- How many tasks an act begins. -/
abbrev actT (f : Nat) (p : DProg) (a : DAct) : Int := sumL (a.kids.map fun k => treeF f p k.toNat)
theorem pow9 {f : Nat} (h : f ≤ 3) : (9 : Int) ^ f ≤ 729 ∧ (0 : Int) < 9 ^ f := by
  rcases f with _ | _ | _ | _ | f <;> first | omega | decide
theorem kidsT_bound {p : DProg} (hp : formOk p = true) {f : Nat} (hf : f ≤ 3) {b : Int} {a : DAct} (hb : 0 ≤ b) (ha : actOk p b a = true) (k : Nat) : 0 ≤ sumL ((a.kids.take k).map fun k => treeF f p k.toNat) ∧ sumL ((a.kids.take k).map fun k => treeF f p k.toNat) ≤ 1458 := by
  obtain ⟨h1, h2⟩ := actOk_kids ha
  have h9 := pow9 hf
  have := sumL_bound ((a.kids.take k).map fun k => treeF f p k.toNat) 729 (by
    intro y hy
    obtain ⟨x, hx, rfl⟩ := List.mem_map.1 hy
    obtain ⟨i, hi, rfl⟩ := mem_getD default (List.mem_of_mem_take hx)
    have := h2 i hi
    have := treeF_bound hp f (a.kids.getD i default).toNat (by omega)
    omega)
  have hl : ((a.kids.take k).map fun k => treeF f p k.toNat).length ≤ 2 := by rw [List.length_map, List.length_take]; omega
  omega
theorem actsT_bound {p : DProg} (hp : formOk p = true) {f : Nat} (hf : f ≤ 3) {b : Nat} (hb : b < p.bodies.length) (k : Nat) : 0 ≤ sumL (((p.bodies.getD b default).take k).map (actT f p)) ∧ sumL (((p.bodies.getD b default).take k).map (actT f p)) ≤ 5832 := by
  obtain ⟨h1, h2⟩ := formOk_body hp hb
  have := sumL_bound (((p.bodies.getD b default).take k).map (actT f p)) 1458 (by
    intro y hy
    obtain ⟨x, hx, rfl⟩ := List.mem_map.1 hy
    obtain ⟨i, hi, rfl⟩ := mem_getD default (List.mem_of_mem_take hx)
    have := kidsT_bound hp hf (by omega) (h2 i hi) 10
    rw [List.take_of_length_le (by have := (actOk_kids (h2 i hi)).1; omega)] at this
    exact this)
  have hl : (((p.bodies.getD b default).take k).map (actT f p)).length ≤ 4 := by rw [List.length_map, List.length_take]; omega
  omega
def plans78 : Plans := [(9, ⟨.take 0 false (.take 2 false (.take 3 false (.take 4 false (.take 1 true (.take 5 true (.alt 6 (.take 7 false (.take 8 false .done)) .done)))))), [], []⟩)]
theorem plans78_ok : plansOk plans78 (bodyOf f78) = true := by kernel_rfl
theorem callx_l1Tree {al0 : Lim} {s0 : St} {as0 : List Operand} {d0 : Option Tmp} {K0 : St → Prop} {f : Nat} {p : DProg} {body : Int} (ρ : List Sel) (cok_ : CallOK prog 78 [.a (eProg p), int body] [] (fun r os => os = [] ∧ r = int (treeF f p body.toNat))) (cn_ : nodupB (keysOf ρ) = true) (ca_ : tvsLe ρ s0.loc.length (as0.map (ev s0)) [.a (eProg p), int body]) (co_ : locLe ρ s0.loc.length s0.loc s0.fz ρ []) (cl_ : limP al0 s0.loc ρ True) (ck_ : placesK s0.loc ρ ([].map (AObj.up ρ s0.loc.length)) fun loc' => s0.afterK loc' d0 ((int (treeF f p body.toNat) : TV).up ρ s0.loc.length) K0) : CallAt prog al0 s0 78 as0 d0 K0 :=
  callB ρ cok_ cn_ ca_ co_ cl_ (by rintro r os ⟨rfl, rfl⟩; exact ck_ )
theorem l1Tree_ok : ∀ (f : Nat) (p : DProg) (body : Int) (hp : formOk p = true) (hb : 0 ≤ body ∧ body < p.bodies.length) (hf : p.bodies.length - body ≤ f) (hf4 : f ≤ 4), CallOK prog 78 [.a (eProg p), int body] [] (fun r os => os = [] ∧ r = int (treeF f p body.toNat))
  | 0, p, body, hp, hb, hf, hf4 => by omega
  | f + 1, p, body, hp, hb, hf, hf4 => by
    have ih := l1Tree_ok f
    obtain ⟨b, rfl⟩ : ∃ b : Nat, body = b := ⟨body.toNat, by omega⟩
    obtain ⟨ba1, ba2⟩ := formOk_body hp (i := b) (by omega)
    refine fn_ [] tab_ok hmo func78 rfl rfl plans78_ok rfl ?_
    repeat' ((conv => whnf); first | (refine And.intro ?_ ?_) | (intro _))
    apply loop_ (fun ((i, n) : (Nat) × (Int)) => i ≤ (p.bodies.getD b default).length ∧ n = 1 + sumL (((p.bodies.getD b default).take i).map (actT f p))) (fun ((i, n) : (Nat) × (Int)) => (⟨43, [(1, int b), (2, ptr 0), (5, int n), (6, int i)], [.box 44 (eProg p)], []⟩ : St)) (fun ((i, n) : (Nat) × (Int)) => (p.bodies.getD b default).length - i)
    · (apply to_ []; apply toAt_ [.all 0] (0, _); rotate_left 1; exact ⟨rfl, rfl, rfl, rfl, ⟨rfl, rfl, rfl, rfl, trivial⟩, ⟨trivial, rfl, ⟨rfl, rfl, fun _ _ => rfl⟩, ⟨rfl, rfl, fun _ _ => rfl⟩, trivial⟩, trivial⟩)
      exact ⟨Nat.zero_le _, rfl⟩
    · rintro ⟨i, n⟩ ⟨h1, h2⟩
      have hB := actsT_bound hp (f := f) (by omega) (b := b) (by omega) i
      repeat' ((conv => whnf); first | (refine And.intro ?_ ?_) | (intro _))
      all_goals (try simp only [Int.toNat_natCast] at *)
      all_goals first | omega | skip
      · have ha := ba2 i (by omega)
        obtain ⟨ka1, ka2⟩ := actOk_kids ha
        apply loop_ (fun ((k, m) : (Nat) × (Int)) => k ≤ ((p.bodies.getD b default).getD i default).kids.length ∧ m = n + sumL ((((p.bodies.getD b default).getD i default).kids.take k).map fun k => treeF f p k.toNat)) (fun ((k, m) : (Nat) × (Int)) => (⟨43, [(1, int b), (2, ptr 0), (5, int m), (6, int i), (7, lst 1 eI ((p.bodies.getD b default).getD i default).kids), (8, int k)], [.box 44 (eProg p)], []⟩ : St)) (fun ((k, m) : (Nat) × (Int)) => ((p.bodies.getD b default).getD i default).kids.length - k)
        · (apply to_ []; apply toAt_ [.all 0] (0, _); rotate_left 1; exact ⟨rfl, rfl, rfl, rfl, ⟨rfl, rfl, rfl, rfl, ⟨rfl, rfl, fun _ _ => rfl⟩, rfl, trivial⟩, ⟨trivial, rfl, ⟨rfl, rfl, fun _ _ => rfl⟩, ⟨rfl, rfl, fun _ _ => rfl⟩, trivial⟩, trivial⟩)
          exact ⟨Nat.zero_le _, by simp [sumL]⟩
        · rintro ⟨k, m⟩ ⟨g1, g2⟩
          have hK := kidsT_bound hp (f := f) (by omega) (by omega) ha k
          have hT : k < ((p.bodies.getD b default).getD i default).kids.length → 0 ≤ treeF f p (((p.bodies.getD b default).getD i default).kids.getD k default).toNat ∧ treeF f p (((p.bodies.getD b default).getD i default).kids.getD k default).toNat ≤ 729 := fun hk => by
            have h9 := pow9 (f := f) (by omega)
            have := treeF_bound hp f (((p.bodies.getD b default).getD i default).kids.getD k default).toNat (by have := ka2 k (by omega); omega)
            omega
          repeat' ((conv => whnf); first | (refine And.intro ?_ ?_) | (intro _) | (apply call0_ (g := 78); refine callx_l1Tree [] (ih p _ hp (by have := ka2 k (by omega); simp only [Int.toNat_natCast]; exact ⟨by omega, by omega⟩) (by have := ka2 k (by omega); simp only [Int.toNat_natCast]; omega) (by omega)) rfl ⟨⟨⟨rfl, rfl, fun _ _ => rfl⟩, ⟨rfl, rfl, fun _ _ => rfl⟩, trivial⟩, rfl, trivial⟩ trivial (by first | exact trivial | exact ⟨trivial, trivial⟩) ?_))
          all_goals (try simp only [Int.toNat_natCast] at *)
          all_goals first | omega | skip
          · (apply to_ []; apply toAt_ [.all 0] (k+1, _); rotate_left 1; exact ⟨rfl, rfl, rfl, rfl, ⟨rfl, rfl, rfl, rfl, ⟨rfl, rfl, fun _ _ => rfl⟩, rfl, trivial⟩, ⟨trivial, rfl, ⟨rfl, rfl, fun _ _ => rfl⟩, ⟨rfl, rfl, fun _ _ => rfl⟩, trivial⟩, trivial⟩)
            refine ⟨⟨by omega, ?_⟩, by simp only; omega⟩
            rw [take_snoc _ _ (by omega), List.map_append, sumL_append]
            simp only [List.map_cons, List.map_nil, sumL]
            omega
          · (apply to_ []; apply toAt_ [.all 0] (i+1, _); rotate_left 1; exact ⟨rfl, rfl, rfl, rfl, ⟨rfl, rfl, rfl, rfl, trivial⟩, ⟨trivial, rfl, ⟨rfl, rfl, fun _ _ => rfl⟩, ⟨rfl, rfl, fun _ _ => rfl⟩, trivial⟩, trivial⟩)
            refine ⟨⟨by omega, ?_⟩, by simp only; omega⟩
            rw [take_snoc _ _ (by omega), List.map_append, sumL_append]
            rw [List.take_of_length_le (by omega)] at g2
            simp only [List.map_cons, List.map_nil, sumL, actT]
            omega
      · (apply ret_ []; apply retAt0 (r := int _); exact rfl; refine ⟨rfl, ?_⟩)
        rw [List.take_of_length_le (by omega)] at h2
        rw [h2]
        rfl
theorem call_l1Tree {al0 : Lim} {s0 : St} {as0 : List Operand} {d0 : Option Tmp} {K0 : St → Prop} {f : Nat} {p : DProg} {body : Int} (ρ : List Sel) (hp : formOk p = true) (hb : 0 ≤ body ∧ body < p.bodies.length) (hf : p.bodies.length - body ≤ f) (hf4 : f ≤ 4) (cn_ : nodupB (keysOf ρ) = true) (ca_ : tvsLe ρ s0.loc.length (as0.map (ev s0)) [.a (eProg p), int body]) (co_ : locLe ρ s0.loc.length s0.loc s0.fz ρ []) (cl_ : limP al0 s0.loc ρ True) (ck_ : placesK s0.loc ρ ([].map (AObj.up ρ s0.loc.length)) fun loc' => s0.afterK loc' d0 ((int (treeF f p body.toNat) : TV).up ρ s0.loc.length) K0) : CallAt prog al0 s0 78 as0 d0 K0 :=
  callx_l1Tree ρ (l1Tree_ok f p body hp hb hf hf4) cn_ ca_ co_ cl_ ck_

theorem ProgOk_ok (p : DProg) : CallOK prog 55 [.a (eProg p)] [] (fun r os => os = [] ∧ r = bl (progOk p)) := by
  refine fn_ (D := []) [] tab_ok hmo func55 rfl rfl rfl rfl ?_
  unfold progOk
  repeat' ((conv => whnf); first | (refine And.intro ?_ ?_) | (intro _) | (apply call0_ (g := 77); refine call_l1Form []  rfl ⟨⟨⟨rfl, rfl, fun _ _ => rfl⟩, ⟨rfl, rfl, fun _ _ => rfl⟩, trivial⟩, trivial⟩ trivial (by first | exact trivial | exact ⟨trivial, trivial⟩) ?_ ?_))
  · rename_i hf
    have hl := formOk_len hf
    repeat' ((conv => whnf); first | (refine And.intro ?_ ?_) | (intro _) | (apply call0_ (g := 78); refine call_l1Tree [] (f := 4) hf (by omega) (by omega) (by omega) rfl ⟨⟨⟨rfl, rfl, fun _ _ => rfl⟩, ⟨rfl, rfl, fun _ _ => rfl⟩, trivial⟩, rfl, trivial⟩ trivial (by first | exact trivial | exact ⟨trivial, trivial⟩) ?_))
    all_goals (apply ret_ []; apply retAt0 (r := bl _); exact rfl; refine ⟨rfl, congrArg bl ?_⟩)
    · rw [hf, decide_eq_true (by assumption)]; rfl
    · rw [hf, decide_eq_false (by assumption)]; rfl
  · rename_i hf
    repeat' ((conv => whnf); first | (refine And.intro ?_ ?_) | (intro _))
    (apply ret_ []; apply retAt0 (r := bl _); exact rfl; refine ⟨rfl, congrArg bl ?_⟩)
    rw [hf]; rfl
theorem callx_ProgOk {al0 : Lim} {s0 : St} {as0 : List Operand} {d0 : Option Tmp} {K0 : St → Prop} {p : DProg} (ρ : List Sel) (cok_ : CallOK prog 55 [.a (eProg p)] [] (fun r os => os = [] ∧ r = bl (progOk p))) (cn_ : nodupB (keysOf ρ) = true) (ca_ : tvsLe ρ s0.loc.length (as0.map (ev s0)) [.a (eProg p)]) (co_ : locLe ρ s0.loc.length s0.loc s0.fz ρ []) (cl_ : limP al0 s0.loc ρ True) (cT_ : (progOk p) = true → placesK s0.loc ρ ([].map (AObj.up ρ s0.loc.length)) fun loc' => s0.afterK loc' d0 ((bl true : TV).up ρ s0.loc.length) K0) (cF_ : (progOk p) = false → placesK s0.loc ρ ([].map (AObj.up ρ s0.loc.length)) fun loc' => s0.afterK loc' d0 ((bl false : TV).up ρ s0.loc.length) K0) : CallAt prog al0 s0 55 as0 d0 K0 :=
  callB ρ cok_ cn_ ca_ co_ cl_ (by rintro r os ⟨rfl, rfl⟩; cases hb : (progOk p) with | true => exact cT_  hb  | false => exact cF_  hb )
theorem call_ProgOk {al0 : Lim} {s0 : St} {as0 : List Operand} {d0 : Option Tmp} {K0 : St → Prop} {p : DProg} (ρ : List Sel) (cn_ : nodupB (keysOf ρ) = true) (ca_ : tvsLe ρ s0.loc.length (as0.map (ev s0)) [.a (eProg p)]) (co_ : locLe ρ s0.loc.length s0.loc s0.fz ρ []) (cl_ : limP al0 s0.loc ρ True) (cT_ : (progOk p) = true → placesK s0.loc ρ ([].map (AObj.up ρ s0.loc.length)) fun loc' => s0.afterK loc' d0 ((bl true : TV).up ρ s0.loc.length) K0) (cF_ : (progOk p) = false → placesK s0.loc ρ ([].map (AObj.up ρ s0.loc.length)) fun loc' => s0.afterK loc' d0 ((bl false : TV).up ρ s0.loc.length) K0) : CallAt prog al0 s0 55 as0 d0 K0 :=
  callx_ProgOk ρ (ProgOk_ok p) cn_ ca_ co_ cl_ cT_ cF_
end Go.Proofs.AYT
namespace Go.Proofs.AYT
open Go Go.Proofs.AY Go.Proofs.Try
theorem tmod_b (a b : Int) : (0 ≤ a ∧ 0 < b) → (0 ≤ a.tmod b ∧ a.tmod b < b) := fun h => ⟨Int.tmod_nonneg b h.1, Int.tmod_lt_of_pos a h.2⟩
theorem tdiv_b (a b : Int) : (0 ≤ a ∧ 0 ≤ b) → (0 ≤ a.tdiv b ∧ a.tdiv b ≤ a) := fun h => ⟨Int.tdiv_nonneg h.1 h.2, by
  rw [Int.tdiv_eq_ediv_of_nonneg h.1]; exact Int.ediv_le_self b h.1⟩
theorem xor_b (a b : Int) (ha : 0 ≤ a ∧ a < 4611686018427387904) (hb : 0 ≤ b ∧ b < 4611686018427387904) :
    0 ≤ IntKind.i64.wrap (BitVec.ofInt IntKind.i64.bits a ^^^ BitVec.ofInt IntKind.i64.bits b).toNat := by
  obtain ⟨a, rfl⟩ := Int.eq_ofNat_of_zero_le ha.1
  obtain ⟨b, rfl⟩ := Int.eq_ofNat_of_zero_le hb.1
  have e : ∀ m : Nat, m < 4611686018427387904 → (BitVec.ofInt 64 (m : Int)).toNat = m := fun m hm => by
    simp only [BitVec.toNat_ofInt]; omega
  have h1 : a < 2 ^ 62 := by omega
  have h2 : b < 2 ^ 62 := by omega
  have hx := Nat.xor_lt_two_pow h1 h2
  have : (BitVec.ofInt 64 (a : Int) ^^^ BitVec.ofInt 64 (b : Int)).toNat = a ^^^ b := by
    rw [BitVec.toNat_xor, e a (by omega), e b (by omega)]
  show 0 ≤ IntKind.i64.wrap ((BitVec.ofInt 64 (a : Int) ^^^ BitVec.ofInt 64 (b : Int)).toNat : Nat)
  rw [this, rng_wrap (k := .i64) (x := ((a ^^^ b : Nat) : Int)) ⟨by omega, by omega⟩]
  omega
/-- Bytes. -/
structure Rd where
  n : Nat
  b : Nat → Int
  hn : n ≤ 2000
  hb : ∀ i, 0 ≤ b i ∧ b i < 256
/-- The reader of bytes R, at p. -/
abbrev rdr (R : Rd) (p : Int) : AObj := .box 94 [.d 1 R.n (fun i => eB (R.b i)), iv p]

def plans52 : Plans := [(7, ⟨.take 0 false (.take 1 false (.take 2 false (.take 4 false (.take 5 false (.take 6 false (.take 7 false (.take 15 false (.take 16 false (.take 17 false (.take 19 false (.take 20 false (.take 21 false (.take 22 false (.take 23 false (.take 24 false (.take 33 false (.take 34 false (.take 36 false (.take 37 false (.take 38 false (.take 39 false (.take 3 true (.take 8 true (.take 9 false (.take 10 false (.take 11 false (.take 12 true (.take 13 false (.take 14 false (.take 18 true (.take 25 true (.take 26 false (.take 27 false (.take 28 false (.take 29 true (.take 30 false (.take 31 false (.take 32 false (.take 35 false (.take 40 true (.take 41 false (.take 42 false (.take 43 false (.take 44 false (.take 45 false .done))))))))))))))))))))))))))))))))))))))))))))), [], []⟩)]
theorem plans52_ok : plansOk plans52 (bodyOf f52) = true := by kernel_rfl
theorem pick_ok (R : Rd) (p k : Int) (hp : 0 ≤ p ∧ p < 1099511627776) : CallOK prog 52 [ptr 0, int k] [rdr R p] (fun r os => ∃ (v : Int), os = [rdr R (p + 1)] ∧ r = int v ∧ (0 ≤ v) ∧ (1 ≤ k → v < k)) := by
  have hn := R.hn
  have hb := R.hb
  have h1 := hb (p + 1 - 1).toNat
  have h2 := hb ((p + 1 - 1).tmod R.n).toNat
  have h3 := hb (((p + 1 - 1) * 7 + 3).tmod R.n).toNat
  refine fn_ [] tab_ok hmo func52 rfl rfl plans52_ok rfl ?_
  repeat' first | (refine And.intro ?_ ?_) | (intro _) | (apply ret_ []; apply retAt_ [.all 0] (int _) [rdr R (p + 1)] rfl rfl; exact rfl; rotate_left 1; (refine Exists.intro _ (And.intro rfl (And.intro rfl ?_))); rotate_left 1)
  all_goals first
    | omega
    | trivial
    | rfl
    | exact (tmod_b _ k (by omega)).1
    | exact (tmod_b _ k (by omega)).2
    | (have t1 := tmod_b (p + 1 - 1) R.n (by omega)
       have t2 := tmod_b ((p + 1 - 1) * 7 + 3) R.n (by omega)
       have t3 := tdiv_b (p + 1 - 1) R.n (by omega)
       generalize (p + 1 - 1).tmod R.n = q1 at *
       generalize ((p + 1 - 1) * 7 + 3).tmod R.n = q2 at *
       generalize (p + 1 - 1).tdiv R.n = q3 at *
       generalize R.b q1.toNat = v1 at *
       generalize R.b q2.toNat = v2 at *
       first
       | omega
       | (have t5 := tdiv_b (v1 * 131 + v2 * 1117 + (p + 1 - 1) * 29 + q3 * 53) 64 (by omega)
          omega)
       | (have t5 := tdiv_b (v1 * 131 + v2 * 1117 + (p + 1 - 1) * 29 + q3 * 53) 64 (by omega)
          have t6 := xor_b (v1 * 131 + v2 * 1117 + (p + 1 - 1) * 29 + q3 * 53) _ (by omega) ⟨t5.1, by omega⟩
          first
          | exact (tmod_b _ k ⟨t6, by omega⟩).1
          | exact (tmod_b _ k ⟨t6, by omega⟩).2))
theorem callx_pick {al0 : Lim} {s0 : St} {as0 : List Operand} {d0 : Option Tmp} {K0 : St → Prop} {R : Rd} {p k : Int} (ρ : List Sel) (cok_ : CallOK prog 52 [ptr 0, int k] [rdr R p] (fun r os => ∃ (v : Int), os = [rdr R (p + 1)] ∧ r = int v ∧ (0 ≤ v) ∧ (1 ≤ k → v < k))) (cn_ : nodupB (keysOf ρ) = true) (ca_ : tvsLe ρ s0.loc.length (as0.map (ev s0)) [ptr 0, int k]) (co_ : locLe ρ s0.loc.length s0.loc s0.fz ρ [rdr R p]) (cl_ : limP al0 s0.loc ρ True) (ck_ : ∀ (v : Int), (0 ≤ v) → (1 ≤ k → v < k) → placesK s0.loc ρ ([rdr R (p + 1)].map (AObj.up ρ s0.loc.length)) fun loc' => s0.afterK loc' d0 ((int v : TV).up ρ s0.loc.length) K0) : CallAt prog al0 s0 52 as0 d0 K0 :=
  callB ρ cok_ cn_ ca_ co_ cl_ (by rintro r os ⟨v, rfl, rfl, hf0, hf1⟩; exact ck_ v hf0 hf1)
theorem call_pick {al0 : Lim} {s0 : St} {as0 : List Operand} {d0 : Option Tmp} {K0 : St → Prop} {R : Rd} {p k : Int} (ρ : List Sel) (hp : 0 ≤ p ∧ p < 1099511627776) (cn_ : nodupB (keysOf ρ) = true) (ca_ : tvsLe ρ s0.loc.length (as0.map (ev s0)) [ptr 0, int k]) (co_ : locLe ρ s0.loc.length s0.loc s0.fz ρ [rdr R p]) (cl_ : limP al0 s0.loc ρ True) (ck_ : ∀ (v : Int), (0 ≤ v) → (1 ≤ k → v < k) → placesK s0.loc ρ ([rdr R (p + 1)].map (AObj.up ρ s0.loc.length)) fun loc' => s0.afterK loc' d0 ((int v : TV).up ρ s0.loc.length) K0) : CallAt prog al0 s0 52 as0 d0 K0 :=
  callx_pick ρ (pick_ok R p k hp) cn_ ca_ co_ cl_ ck_

/-- Bytes, as an argument. -/
abbrev bytes (n : Nat) (b : Nat → Int) : TV := .c (.d 1 n (fun i => eB (b i)))
theorem l6Open_ok (n : Nat) (b : Nat → Int) (hb : ∀ i, 0 ≤ b i ∧ b i < 256) : CallOK prog 49 [bytes n b] [] (fun r os => ∃ (R : Rd), os = [rdr R 0] ∧ r = ptr 0) := by
  refine fn_ (D := []) [] tab_ok hmo func49 rfl rfl rfl rfl ?_
  repeat' ((conv => whnf); first | (refine And.intro ?_ ?_) | (intro _))
  · decide
  · decide
  · omega
  · apply ret_ []
    apply retAt_ [.all 0] (ptr 0) [rdr ⟨2000, fun i => b (0 + i), by omega, fun i => hb _⟩ 0] rfl rfl
    · exact rfl
    · exact ⟨⟨trivial, rfl, ⟨rfl, rfl, fun _ _ => rfl⟩, rfl, trivial⟩, trivial⟩
    · exact ⟨_, rfl, rfl⟩
  · apply ret_ []
    apply retAt_ [.all 0] (ptr 0) [rdr ⟨n, b, by omega, hb⟩ 0] rfl rfl
    · exact rfl
    · exact ⟨⟨trivial, rfl, ⟨rfl, rfl, fun _ _ => rfl⟩, rfl, trivial⟩, trivial⟩
    · exact ⟨_, rfl, rfl⟩
theorem callx_l6Open {al0 : Lim} {s0 : St} {as0 : List Operand} {d0 : Option Tmp} {K0 : St → Prop} {n : Nat} {b : Nat → Int} (ρ : List Sel) (cok_ : CallOK prog 49 [bytes n b] [] (fun r os => ∃ (R : Rd), os = [rdr R 0] ∧ r = ptr 0)) (cn_ : nodupB (keysOf ρ) = true) (ca_ : tvsLe ρ s0.loc.length (as0.map (ev s0)) [bytes n b]) (co_ : locLe ρ s0.loc.length s0.loc s0.fz ρ []) (cl_ : limP al0 s0.loc ρ True) (ck_ : ∀ (R : Rd), placesK s0.loc ρ ([rdr R 0].map (AObj.up ρ s0.loc.length)) fun loc' => s0.afterK loc' d0 ((ptr 0 : TV).up ρ s0.loc.length) K0) : CallAt prog al0 s0 49 as0 d0 K0 :=
  callB ρ cok_ cn_ ca_ co_ cl_ (by rintro r os ⟨R, rfl, rfl⟩; exact ck_ R)
theorem call_l6Open {al0 : Lim} {s0 : St} {as0 : List Operand} {d0 : Option Tmp} {K0 : St → Prop} {n : Nat} {b : Nat → Int} (ρ : List Sel) (hb : ∀ i, 0 ≤ b i ∧ b i < 256) (cn_ : nodupB (keysOf ρ) = true) (ca_ : tvsLe ρ s0.loc.length (as0.map (ev s0)) [bytes n b]) (co_ : locLe ρ s0.loc.length s0.loc s0.fz ρ []) (cl_ : limP al0 s0.loc ρ True) (ck_ : ∀ (R : Rd), placesK s0.loc ρ ([rdr R 0].map (AObj.up ρ s0.loc.length)) fun loc' => s0.afterK loc' d0 ((ptr 0 : TV).up ρ s0.loc.length) K0) : CallAt prog al0 s0 49 as0 d0 K0 :=
  callx_l6Open ρ (l6Open_ok n b hb) cn_ ca_ co_ cl_ ck_

def plans93 : Plans := []
theorem plans93_ok : plansOk plans93 (bodyOf f93) = true := by kernel_rfl
theorem l71Deed_ok (R : Rd) (p cells : Int) (hp : 0 ≤ p ∧ p < 1099511627770) (hc : 0 ≤ cells) : CallOK prog 93 [ptr 0, int cells] [rdr R p] (fun r os => ∃ (p' : Int) (d : Deed), os = [rdr R p'] ∧ r = .a (eDeed d) ∧ (p ≤ p' ∧ p' ≤ p + 3)) := by
  refine fn_ [] tab_ok hmo func93 rfl rfl plans93_ok rfl ?_
  repeat' ((conv => whnf); first | (refine And.intro ?_ ?_) | (intro _) | (apply call0_ (g := 52); refine call_pick [.all 0] (by omega) rfl ⟨rfl, rfl, trivial⟩ ⟨⟨trivial, rfl, ⟨rfl, rfl, fun _ _ => rfl⟩, rfl, trivial⟩, trivial⟩ (by first | exact trivial | exact ⟨⟨rfl, Nat.le_refl _, trivial⟩, trivial⟩ | exact ⟨⟨rfl, trivial, trivial⟩, trivial⟩) ?_))
  all_goals (apply ret_ []; apply retAt_ [.all 0] (.a (eDeed ⟨_, _, _⟩)) [rdr R _] rfl rfl; exact ⟨rfl, rfl, rfl, trivial⟩; exact ⟨⟨trivial, rfl, ⟨rfl, rfl, fun _ _ => rfl⟩, rfl, trivial⟩, trivial⟩; exact ⟨_, ⟨_, _, _⟩, rfl, rfl, by omega, by omega⟩)
theorem callx_l71Deed {al0 : Lim} {s0 : St} {as0 : List Operand} {d0 : Option Tmp} {K0 : St → Prop} {R : Rd} {p cells : Int} (ρ : List Sel) (cok_ : CallOK prog 93 [ptr 0, int cells] [rdr R p] (fun r os => ∃ (p' : Int) (d : Deed), os = [rdr R p'] ∧ r = .a (eDeed d) ∧ (p ≤ p' ∧ p' ≤ p + 3))) (cn_ : nodupB (keysOf ρ) = true) (ca_ : tvsLe ρ s0.loc.length (as0.map (ev s0)) [ptr 0, int cells]) (co_ : locLe ρ s0.loc.length s0.loc s0.fz ρ [rdr R p]) (cl_ : limP al0 s0.loc ρ True) (ck_ : ∀ (p' : Int) (d : Deed), (p ≤ p' ∧ p' ≤ p + 3) → placesK s0.loc ρ ([rdr R p'].map (AObj.up ρ s0.loc.length)) fun loc' => s0.afterK loc' d0 ((.a (eDeed d) : TV).up ρ s0.loc.length) K0) : CallAt prog al0 s0 93 as0 d0 K0 :=
  callB ρ cok_ cn_ ca_ co_ cl_ (by rintro r os ⟨p', d, rfl, rfl, hf0⟩; exact ck_ p' d hf0)
theorem call_l71Deed {al0 : Lim} {s0 : St} {as0 : List Operand} {d0 : Option Tmp} {K0 : St → Prop} {R : Rd} {p cells : Int} (ρ : List Sel) (hp : 0 ≤ p ∧ p < 1099511627770) (hc : 0 ≤ cells) (cn_ : nodupB (keysOf ρ) = true) (ca_ : tvsLe ρ s0.loc.length (as0.map (ev s0)) [ptr 0, int cells]) (co_ : locLe ρ s0.loc.length s0.loc s0.fz ρ [rdr R p]) (cl_ : limP al0 s0.loc ρ True) (ck_ : ∀ (p' : Int) (d : Deed), (p ≤ p' ∧ p' ≤ p + 3) → placesK s0.loc ρ ([rdr R p'].map (AObj.up ρ s0.loc.length)) fun loc' => s0.afterK loc' d0 ((.a (eDeed d) : TV).up ρ s0.loc.length) K0) : CallAt prog al0 s0 93 as0 d0 K0 :=
  callx_l71Deed ρ (l71Deed_ok R p cells hp hc) cn_ ca_ co_ cl_ ck_
end Go.Proofs.AYT
namespace Go.Proofs.AYT
open Go Go.Proofs.AY Go.Proofs.Try
def plans74 : Plans := []
theorem plans74_ok : plansOk plans74 (bodyOf f74) = true := by kernel_rfl
theorem l71Deeds_ok (R : Rd) (p cells : Int) (hp : 0 ≤ p ∧ p < 1099511627000) (hc : 0 ≤ cells) : CallOK prog 74 [ptr 0, int cells] [rdr R p] (fun r os => ∃ (p' : Int) (ds : List Deed), os = [rdr R p'] ∧ r = lst 3 eDeed ds ∧ (p ≤ p' ∧ p' ≤ p + 40) ∧ (ds.length ≤ 10)) := by
  refine fn_ [4] tab_ok hmo func74 rfl rfl plans74_ok rfl ?_
  apply cut_ (fun q : Int => p ≤ q ∧ q ≤ p + 2) (fun q : Int => (⟨43, [(0, ptr 0), (1, int cells)], [rdr R q], []⟩ : St))
  · repeat' ((conv => whnf); first | (refine And.intro ?_ ?_) | (intro _) | (apply call0_ (g := 52); refine call_pick [.all 0] (by omega) rfl ⟨rfl, rfl, trivial⟩ ⟨⟨trivial, rfl, ⟨rfl, rfl, fun _ _ => rfl⟩, rfl, trivial⟩, trivial⟩ (by first | exact trivial | exact ⟨⟨rfl, Nat.le_refl _, trivial⟩, trivial⟩ | exact ⟨⟨rfl, trivial, trivial⟩, trivial⟩) ?_))
    · omega
    · omega
    · rename_i v2 _ _ v1 _ _
      apply ret_ [1]
      refine And.intro ?_ ?_
      · exact (fun i hi => by (rcases i with _ | _ | _ | _ | i <;> first | rfl | omega | (exfalso; simp only [List.length] at hi; omega)))
      · apply retAt_ [.all 0] (lst 3 eDeed [⟨1, 0, v2⟩, ⟨3, 1, 1 + v1⟩, ⟨4, 0, 1⟩, ⟨2, v2, 0⟩]) [rdr R _] rfl rfl
        · exact ⟨rfl, rfl, (fun i hi => by (rcases i with _ | _ | _ | _ | i <;> first | rfl | omega | (exfalso; simp only [List.length] at hi; omega)))⟩
        · exact ⟨⟨trivial, rfl, ⟨rfl, rfl, fun _ _ => rfl⟩, rfl, trivial⟩, trivial⟩
        · exact ⟨_, _, rfl, rfl, by omega, by simp⟩
    · (apply to_ []; apply toAt_ [.all 0] (p+1); rotate_left 1; exact ⟨rfl, rfl, rfl, rfl, ⟨rfl, rfl, trivial⟩, ⟨trivial, rfl, ⟨rfl, rfl, fun _ _ => rfl⟩, rfl, trivial⟩, trivial⟩)
      show _ ∧ _
      omega
    · (apply to_ []; apply toAt_ [.all 0] p; rotate_left 1; exact ⟨rfl, rfl, rfl, rfl, ⟨rfl, rfl, trivial⟩, ⟨trivial, rfl, ⟨rfl, rfl, fun _ _ => rfl⟩, rfl, trivial⟩, trivial⟩)
      show _ ∧ _
      omega
  · intro q hq
    repeat' ((conv => whnf); first | (refine And.intro ?_ ?_) | (intro _) | (apply call0_ (g := 52); refine call_pick [.all 0] (by omega) rfl ⟨rfl, rfl, trivial⟩ ⟨⟨trivial, rfl, ⟨rfl, rfl, fun _ _ => rfl⟩, rfl, trivial⟩, trivial⟩ (by first | exact trivial | exact ⟨⟨rfl, Nat.le_refl _, trivial⟩, trivial⟩ | exact ⟨⟨rfl, trivial, trivial⟩, trivial⟩) ?_))
    · omega
    · omega
    apply loop_ (fun ((q1, k, m, ds) : (Int) × (Int) × (Nat) × (List Deed)) => 0 ≤ k ∧ k + m ≤ 5 ∧ p ≤ q1 ∧ q1 ≤ p + 5 + 3 * m ∧ ds.length = m) (fun ((q1, k, m, ds) : (Int) × (Int) × (Nat) × (List Deed)) => (⟨43, [(0, ptr 0), (1, int cells), (6, .c (.s ⟨1, 0⟩ m)), (7, int k)], [rdr R q1, .row 102 3 m (fun j => eDeed (ds.getD j default))], []⟩ : St)) (fun ((q1, k, m, ds) : (Int) × (Int) × (Nat) × (List Deed)) => k.toNat)
    · (apply to_ []; apply toAt_ [.all 0, .all 1] (_, _, 0, []); rotate_left 1; exact ⟨rfl, rfl, rfl, rfl, ⟨rfl, rfl, rfl, rfl, trivial⟩, ⟨trivial, rfl, ⟨rfl, rfl, fun _ _ => rfl⟩, rfl, trivial⟩, ⟨trivial, rfl, rfl, rfl, fun j hj => absurd hj (Nat.not_lt_zero _)⟩, trivial⟩)
      exact ⟨by omega, by (try simp only); omega, by omega, by (try simp only); omega, rfl⟩
    · rintro ⟨q1, k, m, ds⟩ ⟨i1, i2, i3, i4, i5⟩
      repeat' ((conv => whnf); first | (refine And.intro ?_ ?_) | (intro _) | (apply call0_ (g := 93); refine call_l71Deed [.all 0] (by omega) (by omega) rfl ⟨rfl, rfl, trivial⟩ ⟨⟨trivial, rfl, ⟨rfl, rfl, fun _ _ => rfl⟩, rfl, trivial⟩, trivial⟩ (by first | exact trivial | exact ⟨⟨rfl, Nat.le_refl _, trivial⟩, trivial⟩ | exact ⟨⟨rfl, trivial, trivial⟩, trivial⟩) ?_))
      all_goals first | omega | (simp only [ti102]; omega) | skip
      · rename_i p' d _
        (apply to_ []; apply toAt_ [.all 0, .all 3] (p', k - 1, m + 1, ds ++ [d]); rotate_left 1; exact ⟨rfl, rfl, rfl, rfl, ⟨rfl, rfl, rfl, rfl, trivial⟩, ⟨trivial, rfl, ⟨rfl, rfl, fun _ _ => rfl⟩, rfl, trivial⟩, ⟨trivial, rfl, rfl, rfl, snocLe (by assumption) (fun _ _ => ⟨rfl, rfl, rfl, trivial⟩) (fun _ => ⟨rfl, rfl, rfl, trivial⟩)⟩, trivial⟩)
        refine ⟨⟨by omega, by (try simp only); omega, by omega, by (try simp only); omega, by simp [i5]⟩, by (try simp only); omega⟩
      · apply ret_ [1]
        refine And.intro (fun i hi => rfl) ?_
        apply retAt_ [.all 0] (lst 3 eDeed ds) [rdr R _] rfl rfl
        · exact ⟨rfl, i5.symm, fun i hi => rfl⟩
        · exact ⟨⟨trivial, rfl, ⟨rfl, rfl, fun _ _ => rfl⟩, rfl, trivial⟩, trivial⟩
        · exact ⟨_, _, rfl, rfl, by omega, by omega⟩
theorem callx_l71Deeds {al0 : Lim} {s0 : St} {as0 : List Operand} {d0 : Option Tmp} {K0 : St → Prop} {R : Rd} {p cells : Int} (ρ : List Sel) (cok_ : CallOK prog 74 [ptr 0, int cells] [rdr R p] (fun r os => ∃ (p' : Int) (ds : List Deed), os = [rdr R p'] ∧ r = lst 3 eDeed ds ∧ (p ≤ p' ∧ p' ≤ p + 40) ∧ (ds.length ≤ 10))) (cn_ : nodupB (keysOf ρ) = true) (ca_ : tvsLe ρ s0.loc.length (as0.map (ev s0)) [ptr 0, int cells]) (co_ : locLe ρ s0.loc.length s0.loc s0.fz ρ [rdr R p]) (cl_ : limP al0 s0.loc ρ True) (ck_ : ∀ (p' : Int) (ds : List Deed), (p ≤ p' ∧ p' ≤ p + 40) → (ds.length ≤ 10) → placesK s0.loc ρ ([rdr R p'].map (AObj.up ρ s0.loc.length)) fun loc' => s0.afterK loc' d0 ((lst 3 eDeed ds : TV).up ρ s0.loc.length) K0) : CallAt prog al0 s0 74 as0 d0 K0 :=
  callB ρ cok_ cn_ ca_ co_ cl_ (by rintro r os ⟨p', ds, rfl, rfl, hf0, hf1⟩; exact ck_ p' ds hf0 hf1)
theorem call_l71Deeds {al0 : Lim} {s0 : St} {as0 : List Operand} {d0 : Option Tmp} {K0 : St → Prop} {R : Rd} {p cells : Int} (ρ : List Sel) (hp : 0 ≤ p ∧ p < 1099511627000) (hc : 0 ≤ cells) (cn_ : nodupB (keysOf ρ) = true) (ca_ : tvsLe ρ s0.loc.length (as0.map (ev s0)) [ptr 0, int cells]) (co_ : locLe ρ s0.loc.length s0.loc s0.fz ρ [rdr R p]) (cl_ : limP al0 s0.loc ρ True) (ck_ : ∀ (p' : Int) (ds : List Deed), (p ≤ p' ∧ p' ≤ p + 40) → (ds.length ≤ 10) → placesK s0.loc ρ ([rdr R p'].map (AObj.up ρ s0.loc.length)) fun loc' => s0.afterK loc' d0 ((lst 3 eDeed ds : TV).up ρ s0.loc.length) K0) : CallAt prog al0 s0 74 as0 d0 K0 :=
  callx_l71Deeds ρ (l71Deeds_ok R p cells hp hc) cn_ ca_ co_ cl_ ck_

def plans73 : Plans := []
theorem plans73_ok : plansOk plans73 (bodyOf f73) = true := by kernel_rfl
theorem l71Body_ok (R : Rd) (p body bodies cells : Int) (hp : 0 ≤ p ∧ p < 1099511620000) (hc : 0 ≤ cells) (h0 : 0 ≤ body ∧ body < bodies ∧ bodies ≤ 10) : CallOK prog 73 [ptr 0, int body, int bodies, int cells] [rdr R p] (fun r os => ∃ (p' : Int) (bs : List DAct), os = [rdr R p'] ∧ r = lst 4 eAct bs ∧ (p ≤ p' ∧ p' ≤ p + 200) ∧ (bs.length ≤ 3)) := by
  refine fn_ [] tab_ok hmo func73 rfl rfl plans73_ok rfl ?_
  repeat' ((conv => whnf); first | (refine And.intro ?_ ?_) | (intro _) | (apply call0_ (g := 52); refine call_pick [.all 0] (by omega) rfl ⟨rfl, rfl, trivial⟩ ⟨⟨trivial, rfl, ⟨rfl, rfl, fun _ _ => rfl⟩, rfl, trivial⟩, trivial⟩ (by first | exact trivial | exact ⟨⟨rfl, Nat.le_refl _, trivial⟩, trivial⟩ | exact ⟨⟨rfl, trivial, trivial⟩, trivial⟩) ?_))
  · omega
  · omega
  apply loop_ (fun ((q, k, m, bs) : (Int) × (Int) × (Nat) × (List DAct)) => 0 ≤ k ∧ k + m ≤ 3 ∧ p ≤ q ∧ q ≤ p + 1 + 60 * (3 - k) ∧ bs.length = m) (fun ((q, k, m, bs) : (Int) × (Int) × (Nat) × (List DAct)) => (⟨86, [(0, ptr 0), (1, int body), (2, int bodies), (3, int cells), (9, .c (.s ⟨1, 0⟩ m)), (10, int k)], [rdr R q, .row 99 4 m (fun j => eAct (bs.getD j default))], []⟩ : St)) (fun ((q, k, m, bs) : (Int) × (Int) × (Nat) × (List DAct)) => k.toNat)
  · (apply to_ []; apply toAt_ [.all 0, .all 1] (_, _, 0, []); rotate_left 1; exact ⟨rfl, rfl, rfl, rfl, ⟨rfl, rfl, rfl, rfl, rfl, rfl, trivial⟩, ⟨trivial, rfl, ⟨rfl, rfl, fun _ _ => rfl⟩, rfl, trivial⟩, ⟨trivial, rfl, rfl, rfl, fun j hj => absurd hj (Nat.not_lt_zero _)⟩, trivial⟩)
    exact ⟨by omega, by (try simp only); omega, by omega, by (try simp only); omega, rfl⟩
  · rintro ⟨q, k, m, bs⟩ ⟨i1, i2, i3, i4, i5⟩
    repeat' ((conv => whnf); first | (refine And.intro ?_ ?_) | (intro _) | (apply call0_ (g := 52); refine call_pick [.all 0] (by omega) rfl ⟨rfl, rfl, trivial⟩ ⟨⟨trivial, rfl, ⟨rfl, rfl, fun _ _ => rfl⟩, rfl, trivial⟩, trivial⟩ (by first | exact trivial | exact ⟨⟨rfl, Nat.le_refl _, trivial⟩, trivial⟩ | exact ⟨⟨rfl, trivial, trivial⟩, trivial⟩) ?_) | (apply call0_ (g := 74); refine call_l71Deeds [.all 0] (by omega) (by omega) rfl ⟨rfl, rfl, trivial⟩ ⟨⟨trivial, rfl, ⟨rfl, rfl, fun _ _ => rfl⟩, rfl, trivial⟩, trivial⟩ (by first | exact trivial | exact ⟨⟨rfl, Nat.le_refl _, trivial⟩, trivial⟩ | exact ⟨⟨rfl, trivial, trivial⟩, trivial⟩) ?_))
    all_goals first | omega | (simp only [ti99, ti3]; omega) | skip
    all_goals first
    | ((apply to_ []; apply toAt_ [.all 0, .all 1] (_, k - 1, m, bs); rotate_left 1; exact ⟨rfl, rfl, rfl, rfl, ⟨rfl, rfl, rfl, rfl, rfl, rfl, trivial⟩, ⟨trivial, rfl, ⟨rfl, rfl, fun _ _ => rfl⟩, rfl, trivial⟩, ⟨trivial, rfl, rfl, rfl, (fun _ _ => ⟨rfl, ⟨rfl, rfl, fun _ _ => rfl⟩, ⟨rfl, rfl, fun _ _ => rfl⟩, rfl, trivial⟩)⟩, trivial⟩); (refine ⟨⟨by (try simp only); omega, by (try simp only); omega, by (try simp only); omega, by (try simp only); omega, by simp [i5]⟩, by (try simp only); omega⟩))
    | ((apply to_ []; apply toAt_ [.all 0, .all 3] (_, k - 1, m + 1, bs ++ [⟨_, [], [], _⟩]); rotate_left 1; exact ⟨rfl, rfl, rfl, rfl, ⟨rfl, rfl, rfl, rfl, rfl, rfl, trivial⟩, ⟨trivial, rfl, ⟨rfl, rfl, fun _ _ => rfl⟩, rfl, trivial⟩, ⟨trivial, rfl, rfl, rfl, snocLe (by assumption) (fun _ _ => ⟨rfl, ⟨rfl, rfl, fun _ _ => rfl⟩, ⟨rfl, rfl, fun _ _ => rfl⟩, rfl, trivial⟩) (fun _ => ⟨rfl, rfl, rfl, rfl, trivial⟩)⟩, trivial⟩); (refine ⟨⟨by (try simp only); omega, by (try simp only); omega, by (try simp only); omega, by (try simp only); omega, by simp [i5]⟩, by (try simp only); omega⟩))
    | ((apply to_ []; apply toAt_ [.all 0, .all 3] (_, k - 1, m + 1, bs ++ [⟨_, _, [], _⟩]); rotate_left 1; exact ⟨rfl, rfl, rfl, rfl, ⟨rfl, rfl, rfl, rfl, rfl, rfl, trivial⟩, ⟨trivial, rfl, ⟨rfl, rfl, fun _ _ => rfl⟩, rfl, trivial⟩, ⟨trivial, rfl, rfl, rfl, snocLe (by assumption) (fun _ _ => ⟨rfl, ⟨rfl, rfl, fun _ _ => rfl⟩, ⟨rfl, rfl, fun _ _ => rfl⟩, rfl, trivial⟩) (fun _ => ⟨rfl, ⟨rfl, rfl, fun _ _ => rfl⟩, rfl, rfl, trivial⟩)⟩, trivial⟩); (refine ⟨⟨by (try simp only); omega, by (try simp only); omega, by (try simp only); omega, by (try simp only); omega, by simp [i5]⟩, by (try simp only); omega⟩))
    | ((apply to_ [2]); refine And.intro ?_ ?_; exact (fun i hi => by (rcases i with _ | _ | i <;> first | rfl | omega | (exfalso; simp only [List.length] at hi; omega))); (apply toAt_ [.all 0, .all 4] (_, k - 1, m + 1, bs ++ [⟨_, [], [_], _⟩]); rotate_left 1; exact ⟨rfl, rfl, rfl, rfl, ⟨rfl, rfl, rfl, rfl, rfl, rfl, trivial⟩, ⟨trivial, rfl, ⟨rfl, rfl, fun _ _ => rfl⟩, rfl, trivial⟩, ⟨trivial, rfl, rfl, rfl, snocLe (by assumption) (fun _ _ => ⟨rfl, ⟨rfl, rfl, fun _ _ => rfl⟩, ⟨rfl, rfl, fun _ _ => rfl⟩, rfl, trivial⟩) (fun _ => ⟨rfl, rfl, ⟨rfl, rfl, (fun i hi => by (rcases i with _ | _ | i <;> first | rfl | omega | (exfalso; simp only [List.length] at hi; omega)))⟩, rfl, trivial⟩)⟩, trivial⟩); (refine ⟨⟨by (try simp only); omega, by (try simp only); omega, by (try simp only); omega, by (try simp only); omega, by simp [i5]⟩, by (try simp only); omega⟩))
    | ((apply to_ [4]); refine And.intro ?_ ?_; exact (fun i hi => by (rcases i with _ | _ | i <;> first | rfl | omega | (exfalso; simp only [List.length] at hi; omega))); (apply toAt_ [.all 0, .all 6] (_, k - 1, m + 1, bs ++ [⟨_, [], [_, _], _⟩]); rotate_left 1; exact ⟨rfl, rfl, rfl, rfl, ⟨rfl, rfl, rfl, rfl, rfl, rfl, trivial⟩, ⟨trivial, rfl, ⟨rfl, rfl, fun _ _ => rfl⟩, rfl, trivial⟩, ⟨trivial, rfl, rfl, rfl, snocLe (by assumption) (fun _ _ => ⟨rfl, ⟨rfl, rfl, fun _ _ => rfl⟩, ⟨rfl, rfl, fun _ _ => rfl⟩, rfl, trivial⟩) (fun _ => ⟨rfl, rfl, ⟨rfl, rfl, (fun i hi => by (rcases i with _ | _ | i <;> first | rfl | omega | (exfalso; simp only [List.length] at hi; omega)))⟩, rfl, trivial⟩)⟩, trivial⟩); (refine ⟨⟨by (try simp only); omega, by (try simp only); omega, by (try simp only); omega, by (try simp only); omega, by simp [i5]⟩, by (try simp only); omega⟩))
    | skip
    apply ret_ [1]
    refine And.intro (fun i hi => rfl) ?_
    apply retAt_ [.all 0] (lst 4 eAct bs) [rdr R _] rfl rfl
    · exact ⟨rfl, i5.symm, fun i hi => rfl⟩
    · exact ⟨⟨trivial, rfl, ⟨rfl, rfl, fun _ _ => rfl⟩, rfl, trivial⟩, trivial⟩
    · exact ⟨_, _, rfl, rfl, by omega, by omega⟩
theorem callx_l71Body {al0 : Lim} {s0 : St} {as0 : List Operand} {d0 : Option Tmp} {K0 : St → Prop} {R : Rd} {p body bodies cells : Int} (ρ : List Sel) (cok_ : CallOK prog 73 [ptr 0, int body, int bodies, int cells] [rdr R p] (fun r os => ∃ (p' : Int) (bs : List DAct), os = [rdr R p'] ∧ r = lst 4 eAct bs ∧ (p ≤ p' ∧ p' ≤ p + 200) ∧ (bs.length ≤ 3))) (cn_ : nodupB (keysOf ρ) = true) (ca_ : tvsLe ρ s0.loc.length (as0.map (ev s0)) [ptr 0, int body, int bodies, int cells]) (co_ : locLe ρ s0.loc.length s0.loc s0.fz ρ [rdr R p]) (cl_ : limP al0 s0.loc ρ True) (ck_ : ∀ (p' : Int) (bs : List DAct), (p ≤ p' ∧ p' ≤ p + 200) → (bs.length ≤ 3) → placesK s0.loc ρ ([rdr R p'].map (AObj.up ρ s0.loc.length)) fun loc' => s0.afterK loc' d0 ((lst 4 eAct bs : TV).up ρ s0.loc.length) K0) : CallAt prog al0 s0 73 as0 d0 K0 :=
  callB ρ cok_ cn_ ca_ co_ cl_ (by rintro r os ⟨p', bs, rfl, rfl, hf0, hf1⟩; exact ck_ p' bs hf0 hf1)
theorem call_l71Body {al0 : Lim} {s0 : St} {as0 : List Operand} {d0 : Option Tmp} {K0 : St → Prop} {R : Rd} {p body bodies cells : Int} (ρ : List Sel) (hp : 0 ≤ p ∧ p < 1099511620000) (hc : 0 ≤ cells) (h0 : 0 ≤ body ∧ body < bodies ∧ bodies ≤ 10) (cn_ : nodupB (keysOf ρ) = true) (ca_ : tvsLe ρ s0.loc.length (as0.map (ev s0)) [ptr 0, int body, int bodies, int cells]) (co_ : locLe ρ s0.loc.length s0.loc s0.fz ρ [rdr R p]) (cl_ : limP al0 s0.loc ρ True) (ck_ : ∀ (p' : Int) (bs : List DAct), (p ≤ p' ∧ p' ≤ p + 200) → (bs.length ≤ 3) → placesK s0.loc ρ ([rdr R p'].map (AObj.up ρ s0.loc.length)) fun loc' => s0.afterK loc' d0 ((lst 4 eAct bs : TV).up ρ s0.loc.length) K0) : CallAt prog al0 s0 73 as0 d0 K0 :=
  callx_l71Body ρ (l71Body_ok R p body bodies cells hp hc h0) cn_ ca_ co_ cl_ ck_

theorem l71Turns_ok (R : Rd) (p most : Int) (hp : 0 ≤ p ∧ p < 1099511620000) (hm : 0 ≤ most ∧ most ≤ 300) : CallOK prog 92 [ptr 0, int most] [rdr R p] (fun r os => ∃ (p' : Int) (ts : List Int), os = [rdr R p'] ∧ r = lst 1 eI ts ∧ (p ≤ p' ∧ p' ≤ p + 1000) ∧ ((ts.length : Int) ≤ most + 5)) := by
  refine fn_ (D := []) [] tab_ok hmo func92 rfl rfl rfl rfl ?_
  repeat' ((conv => whnf); first | (refine And.intro ?_ ?_) | (intro _))
  apply loop_ (fun ((q, m, ts) : (Int) × (Nat) × (List Int)) => p ≤ q ∧ q ≤ p + 3 * m ∧ ts.length = m ∧ (m : Int) ≤ most + 5) (fun ((q, m, ts) : (Int) × (Nat) × (List Int)) => (⟨33, [(0, ptr 0), (1, int most), (5, .c (.s ⟨1, 0⟩ m))], [rdr R q, .row 3 1 m (fun j => eI (ts.getD j default))], []⟩ : St)) (fun ((q, m, ts) : (Int) × (Nat) × (List Int)) => (most + 5 - m).toNat)
  · (apply to_ []; apply toAt_ [.all 0, .all 1] (_, 0, []); rotate_left 1; exact ⟨rfl, rfl, rfl, rfl, ⟨rfl, rfl, rfl, trivial⟩, ⟨trivial, rfl, ⟨rfl, rfl, fun _ _ => rfl⟩, rfl, trivial⟩, ⟨trivial, rfl, rfl, rfl, fun j hj => absurd hj (Nat.not_lt_zero _)⟩, trivial⟩)
    exact ⟨by omega, by (try simp only); omega, rfl, by (try simp only); omega⟩
  · rintro ⟨q, m, ts⟩ ⟨i1, i2, i3, i4⟩
    repeat' ((conv => whnf); first | (refine And.intro ?_ ?_) | (intro _) | (apply call0_ (g := 52); refine call_pick [.all 0] (by omega) rfl ⟨rfl, rfl, trivial⟩ ⟨⟨trivial, rfl, ⟨rfl, rfl, fun _ _ => rfl⟩, rfl, trivial⟩, trivial⟩ (by first | exact trivial | exact ⟨⟨rfl, Nat.le_refl _, trivial⟩, trivial⟩ | exact ⟨⟨rfl, trivial, trivial⟩, trivial⟩) ?_))
    all_goals first | omega | skip
    · rename_i v _ _ c _ _
      apply loop_ (fun ((c, m1, ts1) : (Int) × (Nat) × (List Int)) => 0 ≤ c ∧ (m1 : Int) + c ≤ most + 4 ∧ ts1.length = m1 ∧ m + 1 ≤ m1 + c ∧ m ≤ m1) (fun ((c, m1, ts1) : (Int) × (Nat) × (List Int)) => (⟨33, [(0, ptr 0), (1, int most), (5, .c (.s ⟨1, 0⟩ m1)), (6, int v), (7, int c)], [rdr R (q + 1 + 1), .row 3 1 m1 (fun j => eI (ts1.getD j default))], []⟩ : St)) (fun ((c, m1, ts1) : (Int) × (Nat) × (List Int)) => c.toNat)
      · (apply to_ []; apply toAt_ [.all 0, .all 1] (_, _, ts); rotate_left 1; exact ⟨rfl, rfl, rfl, rfl, ⟨rfl, rfl, rfl, rfl, rfl, trivial⟩, ⟨trivial, rfl, ⟨rfl, rfl, fun _ _ => rfl⟩, rfl, trivial⟩, ⟨trivial, rfl, rfl, rfl, (fun _ _ => ⟨rfl, trivial⟩)⟩, trivial⟩)
        exact ⟨by omega, by (try simp only); omega, by (try simp only); omega, by (try simp only); omega, by (try simp only); omega⟩
      · rintro ⟨c, m1, ts1⟩ ⟨g1, g2, g3, g4, g5⟩
        repeat' ((conv => whnf); first | (refine And.intro ?_ ?_) | (intro _) | (apply call0_ (g := 52); refine call_pick [.all 0] (by omega) rfl ⟨rfl, rfl, trivial⟩ ⟨⟨trivial, rfl, ⟨rfl, rfl, fun _ _ => rfl⟩, rfl, trivial⟩, trivial⟩ (by first | exact trivial | exact ⟨⟨rfl, Nat.le_refl _, trivial⟩, trivial⟩ | exact ⟨⟨rfl, trivial, trivial⟩, trivial⟩) ?_))
        all_goals first | omega | (simp only [ti3]; omega) | skip
        · (apply to_ []; apply toAt_ [.all 0, .all 3] (c - 1, m1 + 1, ts1 ++ [v]); rotate_left 1; exact ⟨rfl, rfl, rfl, rfl, ⟨rfl, rfl, rfl, rfl, rfl, trivial⟩, ⟨trivial, rfl, ⟨rfl, rfl, fun _ _ => rfl⟩, rfl, trivial⟩, ⟨trivial, rfl, rfl, rfl, snocLe (by assumption) (fun _ _ => ⟨rfl, trivial⟩) (fun _ => ⟨rfl, trivial⟩)⟩, trivial⟩)
          refine ⟨⟨by omega, by (try simp only); omega, by simp [g3], by (try simp only); omega, by (try simp only); omega⟩, by (try simp only); omega⟩
        · apply ret_ [1]
          refine And.intro (fun i hi => rfl) ?_
          apply retAt_ [.all 0] (lst 1 eI ts1) [rdr R _] rfl rfl
          · exact ⟨rfl, g3.symm, fun i hi => rfl⟩
          · exact ⟨⟨trivial, rfl, ⟨rfl, rfl, fun _ _ => rfl⟩, rfl, trivial⟩, trivial⟩
          · exact ⟨_, _, rfl, rfl, by omega, by omega⟩
        · (apply to_ []; apply toAt_ [.all 0, .all 1] (_, m1, ts1); rotate_left 1; exact ⟨rfl, rfl, rfl, rfl, ⟨rfl, rfl, rfl, trivial⟩, ⟨trivial, rfl, ⟨rfl, rfl, fun _ _ => rfl⟩, rfl, trivial⟩, ⟨trivial, rfl, rfl, rfl, (fun _ _ => ⟨rfl, trivial⟩)⟩, trivial⟩)
          refine ⟨⟨by omega, by (try simp only); omega, by assumption, by (try simp only); omega⟩, by (try simp only); omega⟩
    · rfl
    · apply ret_ []
      apply retAt_ [.all 0] (lst 1 eI (ts.take most.toNat)) [rdr R _] rfl rfl
      · refine ⟨rfl, ?_, fun i hi => ?_⟩
        · simp only [Int.toNat_zero, Nat.sub_zero, List.length_take]; omega
        · show eI (ts.getD (0 + i) default) = eI ((ts.take most.toNat).getD i default)
          rw [getD_take hi, Nat.zero_add]
      · exact ⟨⟨trivial, rfl, ⟨rfl, rfl, fun _ _ => rfl⟩, rfl, trivial⟩, trivial⟩
      · exact ⟨_, _, rfl, rfl, by omega, by simp only [List.length_take]; omega⟩
theorem callx_l71Turns {al0 : Lim} {s0 : St} {as0 : List Operand} {d0 : Option Tmp} {K0 : St → Prop} {R : Rd} {p most : Int} (ρ : List Sel) (cok_ : CallOK prog 92 [ptr 0, int most] [rdr R p] (fun r os => ∃ (p' : Int) (ts : List Int), os = [rdr R p'] ∧ r = lst 1 eI ts ∧ (p ≤ p' ∧ p' ≤ p + 1000) ∧ ((ts.length : Int) ≤ most + 5))) (cn_ : nodupB (keysOf ρ) = true) (ca_ : tvsLe ρ s0.loc.length (as0.map (ev s0)) [ptr 0, int most]) (co_ : locLe ρ s0.loc.length s0.loc s0.fz ρ [rdr R p]) (cl_ : limP al0 s0.loc ρ True) (ck_ : ∀ (p' : Int) (ts : List Int), (p ≤ p' ∧ p' ≤ p + 1000) → ((ts.length : Int) ≤ most + 5) → placesK s0.loc ρ ([rdr R p'].map (AObj.up ρ s0.loc.length)) fun loc' => s0.afterK loc' d0 ((lst 1 eI ts : TV).up ρ s0.loc.length) K0) : CallAt prog al0 s0 92 as0 d0 K0 :=
  callB ρ cok_ cn_ ca_ co_ cl_ (by rintro r os ⟨p', ts, rfl, rfl, hf0, hf1⟩; exact ck_ p' ts hf0 hf1)
theorem call_l71Turns {al0 : Lim} {s0 : St} {as0 : List Operand} {d0 : Option Tmp} {K0 : St → Prop} {R : Rd} {p most : Int} (ρ : List Sel) (hp : 0 ≤ p ∧ p < 1099511620000) (hm : 0 ≤ most ∧ most ≤ 300) (cn_ : nodupB (keysOf ρ) = true) (ca_ : tvsLe ρ s0.loc.length (as0.map (ev s0)) [ptr 0, int most]) (co_ : locLe ρ s0.loc.length s0.loc s0.fz ρ [rdr R p]) (cl_ : limP al0 s0.loc ρ True) (ck_ : ∀ (p' : Int) (ts : List Int), (p ≤ p' ∧ p' ≤ p + 1000) → ((ts.length : Int) ≤ most + 5) → placesK s0.loc ρ ([rdr R p'].map (AObj.up ρ s0.loc.length)) fun loc' => s0.afterK loc' d0 ((lst 1 eI ts : TV).up ρ s0.loc.length) K0) : CallAt prog al0 s0 92 as0 d0 K0 :=
  callx_l71Turns ρ (l71Turns_ok R p most hp hm) cn_ ca_ co_ cl_ ck_
end Go.Proofs.AYT
namespace Go.Proofs.AYT
open Go Go.Proofs.AY Go.Proofs.Try
def plans53 : Plans := [(9, ⟨.take 0 false (.take 3 false (.take 1 true (.alt 2 (.alt 4 (.take 5 false (.alt 6 (.alt 7 (.alt 8 (.take 9 false (.alt 10 .done .done)) .done) .done) .done)) .done) (.alt 4 (.alt 2 (.take 5 false (.alt 6 (.alt 7 (.alt 8 (.take 9 false (.alt 10 .done .done)) .done) .done) .done)) .done) .done)))), [8, 10], [0]⟩),
  (14, ⟨.take 0 false (.take 2 false (.take 3 false (.take 4 false (.take 5 false (.take 1 true (.alt 6 (.alt 7 (.alt 8 (.take 9 false (.alt 10 .done .done)) .done) .done) .done)))))), [8, 10], [0]⟩),
  (16, ⟨.take 0 false (.take 2 false (.take 3 false (.take 4 false (.take 9 false (.take 10 false (.take 1 true (.alt 5 (.take 6 false (.alt 7 (.take 8 false (.alt 11 (.take 12 false (.alt 13 (.take 14 false (.alt 15 .done .done)) .done)) .done)) (.alt 11 (.take 12 false (.alt 7 (.take 8 false (.alt 13 (.take 14 false (.alt 15 .done .done)) .done)) .done)) .done))) .done))))))), [15], [0]⟩)]
theorem plans53_ok : plansOk plans53 (bodyOf f53) = true := by kernel_rfl
theorem l71Prog_ok (R : Rd) (p : Int) (hp : 0 ≤ p ∧ p < 1099511000000) : CallOK prog 53 [ptr 0] [rdr R p] (fun r os => ∃ (p' : Int) (P : DProg), os = [rdr R p'] ∧ r = .a (eProg P) ∧ (p ≤ p' ∧ p' ≤ p + 20000) ∧ (progOk P = true) ∧ (1 ≤ P.cells.length)) := by
  refine fn_ [17] tab_ok hmo func53 rfl rfl plans53_ok rfl ?_
  repeat' ((conv => whnf); first | (refine And.intro ?_ ?_) | (intro _))
  apply loop_ (fun ((q, i) : (Int) × (Int)) => 0 ≤ i ∧ p ≤ q ∧ q ≤ p + 2000 * i ∧ i ≤ 10) (fun ((q, i) : (Int) × (Int)) => (⟨84, [(0, ptr 0), (2, ptr 1), (3, int i)], [rdr R q, .box 44 [.v (.slice none 0 0), .v (.slice none 0 0)]], []⟩ : St)) (fun ((q, i) : (Int) × (Int)) => (10 - i).toNat)
  · (apply to_ []; apply toAt_ [.all 0, .all 1] (_, 0); rotate_left 1; exact ⟨rfl, rfl, rfl, rfl, ⟨rfl, rfl, rfl, trivial⟩, ⟨trivial, rfl, ⟨rfl, rfl, fun _ _ => rfl⟩, rfl, trivial⟩, ⟨trivial, rfl, rfl, rfl, trivial⟩, trivial⟩)
    exact ⟨by omega, by (try simp only); omega, by (try simp only); omega, by (try simp only); omega⟩
  · rintro ⟨q, i⟩ ⟨h1, h2, h3, h4⟩
    repeat' ((conv => whnf); first | (refine And.intro ?_ ?_) | (intro _) | (apply call0_ (g := 52); refine call_pick [.all 0] (by omega) rfl ⟨rfl, rfl, trivial⟩ ⟨⟨trivial, rfl, ⟨rfl, rfl, fun _ _ => rfl⟩, rfl, trivial⟩, trivial⟩ (by first | exact trivial | exact ⟨⟨rfl, Nat.le_refl _, trivial⟩, trivial⟩ | exact ⟨⟨rfl, trivial, trivial⟩, trivial⟩) ?_))
    all_goals first | omega | skip
    · rename_i cells hc0 hc3
      apply loop_ (fun ((q1, n, m, cs) : (Int) × (Int) × (Nat) × (List Int)) => 0 ≤ n ∧ n + q ≤ q1 ∧ q1 ≤ q + 1 + n ∧ (m : Int) = n ∧ n ≤ 1 + cells ∧ cs.length = m) (fun ((q1, n, m, cs) : (Int) × (Int) × (Nat) × (List Int)) => (⟨84, [(0, ptr 0), (2, ptr 1), (3, int i), (4, ptr 2), (5, int (1 + cells)), (6, int n)], [rdr R q1, .box 44 [.v (.slice none 0 0), .v (.slice none 0 0)], .box 44 [.s ⟨3, 0⟩ m, .v (.slice none 0 0)], .row 3 1 m (fun j => eI (cs.getD j default))], []⟩ : St)) (fun ((q1, n, m, cs) : (Int) × (Int) × (Nat) × (List Int)) => (3 - n).toNat)
      · (apply to_ []; apply toAt_ [.all 0, .all 1, .all 3, .all 2] (_, _, _, []); rotate_left 1; exact ⟨rfl, rfl, rfl, rfl, ⟨rfl, rfl, rfl, rfl, rfl, rfl, trivial⟩, ⟨trivial, rfl, ⟨rfl, rfl, fun _ _ => rfl⟩, rfl, trivial⟩, ⟨trivial, rfl, rfl, rfl, trivial⟩, ⟨trivial, rfl, rfl, rfl, trivial⟩, ⟨trivial, rfl, rfl, rfl, fun j hj => absurd hj (Nat.not_lt_zero _)⟩, trivial⟩)
        exact ⟨by omega, by (try simp only); omega, by (try simp only); omega, by (try simp only); omega, by (try simp only); omega, rfl⟩
      · rintro ⟨q1, n, m, cs⟩ ⟨g1, g2, g3, g4, g5, g6⟩
        repeat' ((conv => whnf); first | (refine And.intro ?_ ?_) | (intro _) | (apply call0_ (g := 52); refine call_pick [.all 0] (by omega) rfl ⟨rfl, rfl, trivial⟩ ⟨⟨trivial, rfl, ⟨rfl, rfl, fun _ _ => rfl⟩, rfl, trivial⟩, trivial⟩ (by first | exact trivial | exact ⟨⟨rfl, Nat.le_refl _, trivial⟩, trivial⟩ | exact ⟨⟨rfl, trivial, trivial⟩, trivial⟩) ?_))
        all_goals first | omega | (simp only [ti3]; omega) | skip
        all_goals try ((apply to_ []; apply toAt_ [.all 0, .all 1, .all 2, .all 6] (_, n + 1, m + 1, cs ++ [_]); rotate_left 1; exact ⟨rfl, rfl, rfl, rfl, ⟨rfl, rfl, rfl, rfl, rfl, rfl, trivial⟩, ⟨trivial, rfl, ⟨rfl, rfl, fun _ _ => rfl⟩, rfl, trivial⟩, ⟨trivial, rfl, rfl, rfl, trivial⟩, ⟨trivial, rfl, rfl, rfl, trivial⟩, ⟨trivial, rfl, rfl, rfl, snocLe (by assumption) (fun _ _ => ⟨rfl, trivial⟩) (fun _ => ⟨rfl, trivial⟩)⟩, trivial⟩); exact ⟨⟨by omega, by (try simp only); omega, by (try simp only); omega, by (try simp only); omega, by (try simp only); omega, by simp [g6]⟩, by (try simp only); omega⟩)
        · rename_i bodies hb0 hb3
          subst g6
          apply loop_ (fun ((q2, b, mb, bs) : (Int) × (Int) × (Nat) × (List (List DAct))) => 0 ≤ b ∧ (mb : Int) = b ∧ q ≤ q2 ∧ q2 ≤ q + 5 + 200 * b ∧ b ≤ 2 + bodies ∧ bs.length = mb) (fun ((q2, b, mb, bs) : (Int) × (Int) × (Nat) × (List (List DAct))) => (⟨84, [(0, ptr 0), (2, ptr 1), (3, int i), (4, ptr 2), (5, int (1 + cells)), (7, int (2 + bodies)), (8, int b)], [rdr R q2, .box 44 [.v (.slice none 0 0), .v (.slice none 0 0)], .box 44 [.s ⟨3, 0⟩ cs.length, .s ⟨4, 0⟩ mb], .row 3 1 cs.length (fun j => eI (cs.getD j default)), .row 95 1 mb (fun j => eBody (bs.getD j default))], []⟩ : St)) (fun ((q2, b, mb, bs) : (Int) × (Int) × (Nat) × (List (List DAct))) => (6 - b).toNat)
          · (apply to_ []; apply toAt_ [.all 0, .all 1, .all 2, .all 3, .nil] (_, _, 0, []); rotate_left 1; exact ⟨rfl, rfl, rfl, rfl, ⟨rfl, rfl, rfl, rfl, rfl, rfl, rfl, trivial⟩, ⟨trivial, rfl, ⟨rfl, rfl, fun _ _ => rfl⟩, rfl, trivial⟩, ⟨trivial, rfl, rfl, rfl, trivial⟩, ⟨trivial, rfl, rfl, ⟨trivial, rfl⟩, trivial⟩, ⟨trivial, rfl, rfl, rfl, (fun _ _ => ⟨rfl, trivial⟩)⟩, rfl, trivial⟩)
            exact ⟨by omega, by (try simp only); omega, by (try simp only); omega, by (try simp only); omega, by (try simp only); omega, rfl⟩
          · rintro ⟨q2, b, mb, bs⟩ ⟨f1, f2, f3, f4, f5, f6⟩
            repeat' ((conv => whnf); first | (refine And.intro ?_ ?_) | (intro _) | (apply call0_ (g := 73); refine call_l71Body [.all 0] (by omega) (by omega) (by omega) rfl ⟨rfl, rfl, rfl, rfl, trivial⟩ ⟨⟨trivial, rfl, ⟨rfl, rfl, fun _ _ => rfl⟩, rfl, trivial⟩, trivial⟩ (by first | exact trivial | exact ⟨⟨rfl, Nat.le_refl _, trivial⟩, trivial⟩ | exact ⟨⟨rfl, trivial, trivial⟩, trivial⟩) ?_) | (apply call0_ (g := 52); refine call_pick [.all 0] (by omega) rfl ⟨rfl, rfl, trivial⟩ ⟨⟨trivial, rfl, ⟨rfl, rfl, fun _ _ => rfl⟩, rfl, trivial⟩, trivial⟩ (by first | exact trivial | exact ⟨⟨rfl, Nat.le_refl _, trivial⟩, trivial⟩ | exact ⟨⟨rfl, trivial, trivial⟩, trivial⟩) ?_))
            all_goals first | omega | (simp only [ti95]; omega) | skip
            · (apply to_ []; apply toAt_ [.all 0, .all 1, .all 2, .all 3, .all 6] (_, b + 1, mb + 1, bs ++ [_]); rotate_left 1; exact ⟨rfl, rfl, rfl, rfl, ⟨rfl, rfl, rfl, rfl, rfl, rfl, rfl, trivial⟩, ⟨trivial, rfl, ⟨rfl, rfl, fun _ _ => rfl⟩, rfl, trivial⟩, ⟨trivial, rfl, rfl, rfl, trivial⟩, ⟨trivial, rfl, rfl, rfl, trivial⟩, ⟨trivial, rfl, rfl, rfl, (fun _ _ => ⟨rfl, trivial⟩)⟩, ⟨trivial, rfl, rfl, rfl, snocLe (by assumption) (fun _ _ => ⟨⟨rfl, rfl, fun _ _ => rfl⟩, trivial⟩) (fun _ => ⟨⟨rfl, rfl, fun _ _ => rfl⟩, trivial⟩)⟩, trivial⟩)
              refine ⟨⟨by omega, by (try simp only); omega, by (try simp only); omega, by (try simp only); omega, by (try simp only); omega, by simp [f6]⟩, by (try simp only); omega⟩
            subst f6
            apply cut_ (fun ((q3, mb, bs1) : (Int) × (Nat) × (List (List DAct))) => q ≤ q3 ∧ q3 ≤ q + 1600 ∧ bs1.length = mb) (fun ((q3, mb, bs1) : (Int) × (Nat) × (List (List DAct))) => (⟨84, [(0, ptr 0), (2, ptr 1), (3, int i), (4, ptr 2)], [rdr R q3, .box 44 [.v (.slice none 0 0), .v (.slice none 0 0)], .box 44 [.s ⟨3, 0⟩ cs.length, .s ⟨4, 0⟩ mb], .row 3 1 cs.length (fun j => eI (cs.getD j default)), .row 95 1 mb (fun j => eBody (bs1.getD j default))], []⟩ : St))
            · repeat' ((conv => whnf); first | (refine And.intro ?_ ?_) | (intro _) | (apply call0_ (g := 52); refine call_pick [.all 0] (by omega) rfl ⟨rfl, rfl, trivial⟩ ⟨⟨trivial, rfl, ⟨rfl, rfl, fun _ _ => rfl⟩, rfl, trivial⟩, trivial⟩ (by first | exact trivial | exact ⟨⟨rfl, Nat.le_refl _, trivial⟩, trivial⟩ | exact ⟨⟨rfl, trivial, trivial⟩, trivial⟩) ?_) | (apply call0_ (g := 74); refine call_l71Deeds [.all 0] (by omega) (by omega) rfl ⟨rfl, rfl, trivial⟩ ⟨⟨trivial, rfl, ⟨rfl, rfl, fun _ _ => rfl⟩, rfl, trivial⟩, trivial⟩ (by first | exact trivial | exact ⟨⟨rfl, Nat.le_refl _, trivial⟩, trivial⟩ | exact ⟨⟨rfl, trivial, trivial⟩, trivial⟩) ?_))
              all_goals first | omega | skip
              all_goals first
              | ((apply to_ []; apply toAt_ [.all 0, .all 1, .all 2, .all 3, .all 4] (_, _, bs); rotate_left 1; exact ⟨rfl, rfl, rfl, rfl, ⟨rfl, rfl, rfl, rfl, trivial⟩, ⟨trivial, rfl, ⟨rfl, rfl, fun _ _ => rfl⟩, rfl, trivial⟩, ⟨trivial, rfl, rfl, rfl, trivial⟩, ⟨trivial, rfl, rfl, rfl, trivial⟩, ⟨trivial, rfl, rfl, rfl, (fun _ _ => ⟨rfl, trivial⟩)⟩, ⟨trivial, rfl, rfl, rfl, (fun _ _ => ⟨⟨rfl, rfl, fun _ _ => rfl⟩, trivial⟩)⟩, trivial⟩); exact ⟨by omega, by (try simp only); omega, rfl⟩)
              | (rename_i v _ _ p1 ds _ _
                 apply to_ [5, .to 6 (fun j => eAct ([⟨2, [], [1, 1 + v], 0⟩, ⟨1, ds, [], 0⟩].getD j default))]
                 refine And.intro ?_ ?_
                 · exact (fun i hi => by (rcases i with _ | _ | i <;> first | rfl | omega | (exfalso; simp only [List.length] at hi; omega)))
                 refine And.intro ?_ ?_
                 · exact (fun i hi => by (rcases i with _ | _ | i <;> first | rfl | omega | (exfalso; simp only [List.length] at hi; omega)))
                 refine And.intro ?_ ?_
                 · intro i hi
                   rcases i with _ | _ | i
                   · exact ⟨rfl, rfl, ⟨rfl, rfl, (fun i hi => by (rcases i with _ | _ | i <;> first | rfl | omega | (exfalso; simp only [List.length] at hi; omega)))⟩, rfl, trivial⟩
                   · exact ⟨rfl, ⟨rfl, rfl, fun _ _ => rfl⟩, rfl, rfl, trivial⟩
                   · omega
                 (apply toAt_ [.all 0, .all 1, .all 2, .all 3, .all 4] (p1, bs.length, bs.set 0 [⟨2, [], [1, 1 + v], 0⟩, ⟨1, ds, [], 0⟩]); rotate_left 1; exact ⟨rfl, rfl, rfl, rfl, ⟨rfl, rfl, rfl, rfl, trivial⟩, ⟨trivial, rfl, ⟨rfl, rfl, fun _ _ => rfl⟩, rfl, trivial⟩, ⟨trivial, rfl, rfl, rfl, trivial⟩, ⟨trivial, rfl, rfl, rfl, trivial⟩, ⟨trivial, rfl, rfl, rfl, (fun _ _ => ⟨rfl, trivial⟩)⟩, ⟨trivial, rfl, rfl, rfl, setLe rfl (fun _ _ => ⟨⟨rfl, rfl, fun _ _ => rfl⟩, trivial⟩) ⟨⟨rfl, rfl, (fun i hi => by (rcases i with _ | _ | i <;> first | rfl | omega | (exfalso; simp only [List.length] at hi; omega)))⟩, trivial⟩⟩, trivial⟩)
                 exact ⟨by omega, by (try simp only); omega, by simp⟩)
            · rintro ⟨q3, mb, bs1⟩ ⟨e1, e2, e3⟩
              subst e3
              repeat' ((conv => whnf); first | (refine And.intro ?_ ?_) | (intro _) | (apply call_ (g := 55) [3, 4]) | (refine call_ProgOk [] (p := ⟨cs, bs1⟩) rfl ⟨⟨⟨rfl, rfl, fun _ _ => rfl⟩, ⟨rfl, rfl, fun _ _ => rfl⟩, trivial⟩, trivial⟩ trivial (by first | exact trivial | exact ⟨trivial, trivial⟩) ?_ ?_))
              all_goals first | omega | rfl | skip
              · rename_i hk
                apply ret_ []
                apply retAt_ [.all 0] (.a (eProg ⟨cs, bs1⟩)) [rdr R _] rfl rfl
                · exact ⟨⟨rfl, rfl, fun _ _ => rfl⟩, ⟨rfl, rfl, fun _ _ => rfl⟩, trivial⟩
                · exact ⟨⟨trivial, rfl, ⟨rfl, rfl, fun _ _ => rfl⟩, rfl, trivial⟩, trivial⟩
                · exact ⟨_, _, rfl, rfl, ⟨by omega, by omega⟩, hk, by (show 1 ≤ cs.length); omega⟩
              · (apply to_ []; apply toAt_ [.all 0, .all 1] (_, i + 1); rotate_left 1; exact ⟨rfl, rfl, rfl, rfl, ⟨rfl, rfl, rfl, trivial⟩, ⟨trivial, rfl, ⟨rfl, rfl, fun _ _ => rfl⟩, rfl, trivial⟩, ⟨trivial, rfl, rfl, rfl, trivial⟩, trivial⟩)
                exact ⟨⟨by omega, by (try simp only); omega, by (try simp only); omega, by (try simp only); omega⟩, by (try simp only); omega⟩
    · apply ret_ [.to 3 (fun j => eI ([1, 1].getD j default)), .to 4 (fun j => eAct ([⟨2, [], [1, 1], 0⟩].getD j default)), .to 5 (fun j => eDeed ([⟨1, 0, 0⟩, ⟨4, 0, 0⟩, ⟨2, 0, 0⟩].getD j default)), .to 6 (fun j => eAct ([⟨1, [⟨1, 0, 0⟩, ⟨4, 0, 0⟩, ⟨2, 0, 0⟩], [], 0⟩].getD j default)), 7, 2]
      refine And.intro ?_ ?_
      · exact (fun i hi => by (rcases i with _ | _ | i <;> first | rfl | omega | (exfalso; simp only [List.length] at hi; omega)))
      refine And.intro ?_ ?_
      · intro i hi
        rcases i with _ | _ | i
        · exact ⟨rfl, trivial⟩
        · exact ⟨rfl, trivial⟩
        · omega
      refine And.intro ?_ ?_
      · exact (fun i hi => by (rcases i with _ | _ | i <;> first | rfl | omega | (exfalso; simp only [List.length] at hi; omega)))
      refine And.intro ?_ ?_
      · intro i hi
        rcases i with _ | i
        · exact ⟨rfl, rfl, ⟨rfl, rfl, fun _ _ => rfl⟩, rfl, trivial⟩
        · omega
      refine And.intro ?_ ?_
      · exact (fun i hi => by (rcases i with _ | _ | _ | _ | i <;> first | rfl | omega | (exfalso; simp only [List.length] at hi; omega)))
      refine And.intro ?_ ?_
      · intro i hi
        rcases i with _ | _ | _ | i
        · exact ⟨rfl, rfl, rfl, trivial⟩
        · exact ⟨rfl, rfl, rfl, trivial⟩
        · exact ⟨rfl, rfl, rfl, trivial⟩
        · omega
      refine And.intro ?_ ?_
      · exact (fun i hi => by (rcases i with _ | _ | i <;> first | rfl | omega | (exfalso; simp only [List.length] at hi; omega)))
      refine And.intro ?_ ?_
      · intro i hi
        rcases i with _ | i
        · exact ⟨rfl, ⟨rfl, rfl, fun _ _ => rfl⟩, rfl, rfl, trivial⟩
        · omega
      refine And.intro ?_ ?_
      · exact (fun i hi => by (rcases i with _ | _ | i <;> first | rfl | omega | (exfalso; simp only [List.length] at hi; omega)))
      refine And.intro ?_ ?_
      · exact (fun i hi => by (rcases i with _ | _ | i <;> first | rfl | omega | (exfalso; simp only [List.length] at hi; omega)))
      apply retAt_ [.all 0] (.a (eProg ⟨[1], [[⟨2, [], [1, 1], 0⟩], [⟨1, [⟨1, 0, 0⟩, ⟨4, 0, 0⟩, ⟨2, 0, 0⟩], [], 0⟩]]⟩)) [rdr R _] rfl rfl
      · exact ⟨⟨rfl, rfl, (fun i hi => by (rcases i with _ | _ | i <;> first | rfl | omega | (exfalso; simp only [List.length] at hi; omega)))⟩, ⟨rfl, rfl, (fun i hi => by (rcases i with _ | _ | i <;> first | rfl | omega | (exfalso; simp only [List.length] at hi; omega)))⟩, trivial⟩
      · exact ⟨⟨trivial, rfl, ⟨rfl, rfl, fun _ _ => rfl⟩, rfl, trivial⟩, trivial⟩
      · exact ⟨_, _, rfl, rfl, ⟨by omega, by omega⟩, by decide, by decide⟩
theorem callx_l71Prog {al0 : Lim} {s0 : St} {as0 : List Operand} {d0 : Option Tmp} {K0 : St → Prop} {R : Rd} {p : Int} (ρ : List Sel) (cok_ : CallOK prog 53 [ptr 0] [rdr R p] (fun r os => ∃ (p' : Int) (P : DProg), os = [rdr R p'] ∧ r = .a (eProg P) ∧ (p ≤ p' ∧ p' ≤ p + 20000) ∧ (progOk P = true) ∧ (1 ≤ P.cells.length))) (cn_ : nodupB (keysOf ρ) = true) (ca_ : tvsLe ρ s0.loc.length (as0.map (ev s0)) [ptr 0]) (co_ : locLe ρ s0.loc.length s0.loc s0.fz ρ [rdr R p]) (cl_ : limP al0 s0.loc ρ True) (ck_ : ∀ (p' : Int) (P : DProg), (p ≤ p' ∧ p' ≤ p + 20000) → (progOk P = true) → (1 ≤ P.cells.length) → placesK s0.loc ρ ([rdr R p'].map (AObj.up ρ s0.loc.length)) fun loc' => s0.afterK loc' d0 ((.a (eProg P) : TV).up ρ s0.loc.length) K0) : CallAt prog al0 s0 53 as0 d0 K0 :=
  callB ρ cok_ cn_ ca_ co_ cl_ (by rintro r os ⟨p', P, rfl, rfl, hf0, hf1, hf2⟩; exact ck_ p' P hf0 hf1 hf2)
theorem call_l71Prog {al0 : Lim} {s0 : St} {as0 : List Operand} {d0 : Option Tmp} {K0 : St → Prop} {R : Rd} {p : Int} (ρ : List Sel) (hp : 0 ≤ p ∧ p < 1099511000000) (cn_ : nodupB (keysOf ρ) = true) (ca_ : tvsLe ρ s0.loc.length (as0.map (ev s0)) [ptr 0]) (co_ : locLe ρ s0.loc.length s0.loc s0.fz ρ [rdr R p]) (cl_ : limP al0 s0.loc ρ True) (ck_ : ∀ (p' : Int) (P : DProg), (p ≤ p' ∧ p' ≤ p + 20000) → (progOk P = true) → (1 ≤ P.cells.length) → placesK s0.loc ρ ([rdr R p'].map (AObj.up ρ s0.loc.length)) fun loc' => s0.afterK loc' d0 ((.a (eProg P) : TV).up ρ s0.loc.length) K0) : CallAt prog al0 s0 53 as0 d0 K0 :=
  callx_l71Prog ρ (l71Prog_ok R p hp) cn_ ca_ co_ cl_ ck_
end Go.Proofs.AYT
namespace Go.Proofs.AYT
open Go Go.Proofs.AY Go.Proofs.Try
theorem l2Nums_ok (l : List Int) (n : Int) : CallOK prog 79 [lst 1 eI l, int n] [] (fun r os => os = [] ∧ r = bl (numsOk l n)) := by
  refine fn_ (D := []) [] tab_ok hmo func79 rfl rfl rfl rfl ?_
  repeat' ((conv => whnf); first | (refine And.intro ?_ ?_) | (intro _))
  apply loop_ (fun i : Nat => i ≤ l.length ∧ upTo (fun j => numOk (l.getD j default)) i) (fun i : Nat => (⟨22, [(0, lst 1 eI l), (1, int n), (5, int i)], [], []⟩ : St)) (fun i : Nat => l.length - i)
  · (apply to_ []; apply toAt_ [] 0; rotate_left 1; exact ⟨rfl, rfl, rfl, rfl, ⟨⟨rfl, rfl, fun _ _ => rfl⟩, rfl, rfl, trivial⟩, trivial⟩)
    exact ⟨Nat.zero_le _, upTo_zero _⟩
  · rintro i ⟨h1, h2⟩
    repeat' ((conv => whnf); first | (refine And.intro ?_ ?_) | (intro _) | (apply call0_ (g := 56); refine call_l6In []  rfl ⟨rfl, rfl, rfl, trivial⟩ trivial (by first | exact trivial | exact ⟨trivial, trivial⟩) ?_ ?_))
    all_goals (try simp only [Int.toNat_natCast] at *)
    all_goals first | omega | skip
    · (apply to_ []; apply toAt_ [] (i+1); rotate_left 1; exact ⟨rfl, rfl, rfl, rfl, ⟨⟨rfl, rfl, fun _ _ => rfl⟩, rfl, rfl, trivial⟩, trivial⟩)
      have hk : numOk (l.getD i default) = true := decide_eq_true (by assumption)
      exact ⟨⟨by omega, upTo_succ h2 hk⟩, by omega⟩
    · (apply ret_ []; apply retAt0 (r := bl _); exact rfl; refine ⟨rfl, congrArg bl ?_⟩)
      have hk : numOk (l.getD i default) = false := decide_eq_false (by assumption)
      unfold numsOk
      rw [not_all (by omega) hk]; rfl
    · (apply ret_ []; apply retAt0 (r := bl _); exact rfl; refine ⟨rfl, congrArg bl ?_⟩)
      unfold numsOk
      rw [all_of (fun j hj => h2 j (by omega)), decide_eq_true (by omega)]; rfl
    · (apply ret_ []; apply retAt0 (r := bl _); exact rfl; refine ⟨rfl, congrArg bl ?_⟩)
      unfold numsOk
      rw [all_of (fun j hj => h2 j (by omega)), decide_eq_false (by omega)]; rfl
theorem callx_l2Nums {al0 : Lim} {s0 : St} {as0 : List Operand} {d0 : Option Tmp} {K0 : St → Prop} {l : List Int} {n : Int} (ρ : List Sel) (cok_ : CallOK prog 79 [lst 1 eI l, int n] [] (fun r os => os = [] ∧ r = bl (numsOk l n))) (cn_ : nodupB (keysOf ρ) = true) (ca_ : tvsLe ρ s0.loc.length (as0.map (ev s0)) [lst 1 eI l, int n]) (co_ : locLe ρ s0.loc.length s0.loc s0.fz ρ []) (cl_ : limP al0 s0.loc ρ True) (cT_ : (numsOk l n) = true → placesK s0.loc ρ ([].map (AObj.up ρ s0.loc.length)) fun loc' => s0.afterK loc' d0 ((bl true : TV).up ρ s0.loc.length) K0) (cF_ : (numsOk l n) = false → placesK s0.loc ρ ([].map (AObj.up ρ s0.loc.length)) fun loc' => s0.afterK loc' d0 ((bl false : TV).up ρ s0.loc.length) K0) : CallAt prog al0 s0 79 as0 d0 K0 :=
  callB ρ cok_ cn_ ca_ co_ cl_ (by rintro r os ⟨rfl, rfl⟩; cases hb : (numsOk l n) with | true => exact cT_  hb  | false => exact cF_  hb )
theorem call_l2Nums {al0 : Lim} {s0 : St} {as0 : List Operand} {d0 : Option Tmp} {K0 : St → Prop} {l : List Int} {n : Int} (ρ : List Sel) (cn_ : nodupB (keysOf ρ) = true) (ca_ : tvsLe ρ s0.loc.length (as0.map (ev s0)) [lst 1 eI l, int n]) (co_ : locLe ρ s0.loc.length s0.loc s0.fz ρ []) (cl_ : limP al0 s0.loc ρ True) (cT_ : (numsOk l n) = true → placesK s0.loc ρ ([].map (AObj.up ρ s0.loc.length)) fun loc' => s0.afterK loc' d0 ((bl true : TV).up ρ s0.loc.length) K0) (cF_ : (numsOk l n) = false → placesK s0.loc ρ ([].map (AObj.up ρ s0.loc.length)) fun loc' => s0.afterK loc' d0 ((bl false : TV).up ρ s0.loc.length) K0) : CallAt prog al0 s0 79 as0 d0 K0 :=
  callx_l2Nums ρ (l2Nums_ok l n) cn_ ca_ co_ cl_ cT_ cF_

def plans80 : Plans := [(4, ⟨.take 0 false (.take 1 false (.take 2 false (.take 3 false (.take 5 false (.take 6 false (.take 4 true (.alt 7 (.take 8 false (.take 9 false (.take 10 false (.take 11 false (.take 12 false (.take 13 false (.take 14 true (.alt 15 (.take 16 false (.take 17 false (.take 18 false (.take 19 false (.take 20 false (.take 21 false (.take 22 false (.take 23 false (.take 24 false (.take 25 false (.take 26 false (.take 28 false (.take 29 false (.take 30 false (.take 31 false (.take 27 true (.take 32 true (.take 33 false (.take 34 false (.take 35 false .done)))))))))))))))))))) .done)))))))) .done))))))), [], []⟩)]
theorem plans80_ok : plansOk plans80 (bodyOf f80) = true := by kernel_rfl
theorem l12List_ok (l : List Put) (n : Int) (hn : 0 ≤ n ∧ n ≤ 9223372036854775807) : CallOK prog 80 [lst 2 ePut l, int n] [] (fun r os => os = [] ∧ r = bl (listOk l n)) := by
  refine fn_ [] tab_ok hmo func80 rfl rfl plans80_ok rfl ?_
  repeat' ((conv => whnf); first | (refine And.intro ?_ ?_) | (intro _))
  apply loop_ (fun i : Nat => i ≤ l.length ∧ upTo (putOk l n) i) (fun i : Nat => (⟨48, [(0, lst 2 ePut l), (1, int n), (5, int i)], [], []⟩ : St)) (fun i : Nat => l.length - i)
  · (apply to_ []; apply toAt_ [] 0; rotate_left 1; exact ⟨rfl, rfl, rfl, rfl, ⟨⟨rfl, rfl, fun _ _ => rfl⟩, rfl, rfl, trivial⟩, trivial⟩)
    exact ⟨Nat.zero_le _, upTo_zero _⟩
  · rintro i ⟨h1, h2⟩
    have hi1 : ((i : Int) - 1).toNat = i - 1 := by omega
    repeat' ((conv => whnf); first | (refine And.intro ?_ ?_) | (intro _) | (apply call0_ (g := 56); refine call_l6In []  rfl ⟨rfl, rfl, rfl, trivial⟩ trivial (by first | exact trivial | exact ⟨trivial, trivial⟩) ?_ ?_))
    all_goals (try simp only [Int.toNat_natCast, hi1] at *)
    all_goals first | omega | skip
    all_goals first
    | ((apply ret_ []; apply retAt0 (r := bl _); exact rfl; refine ⟨rfl, congrArg bl ?_⟩); unfold listOk; rw [allTo_of (fun j hj => h2 j (by omega))]; done)
    | ((apply to_ []; apply toAt_ [] (i+1); rotate_left 1; exact ⟨rfl, rfl, rfl, rfl, ⟨⟨rfl, rfl, fun _ _ => rfl⟩, rfl, rfl, trivial⟩, trivial⟩); exact ⟨⟨by omega, upTo_succ h2 (decide_eq_true (by show putP l n i; unfold putP; omega))⟩, by omega⟩)
    | ((apply ret_ []; apply retAt0 (r := bl _); exact rfl; refine ⟨rfl, congrArg bl ?_⟩); unfold listOk; rw [allTo_not (j := i) (by omega) (decide_eq_false (by show ¬ putP l n i; unfold putP; omega))]; done)
theorem callx_l12List {al0 : Lim} {s0 : St} {as0 : List Operand} {d0 : Option Tmp} {K0 : St → Prop} {l : List Put} {n : Int} (ρ : List Sel) (cok_ : CallOK prog 80 [lst 2 ePut l, int n] [] (fun r os => os = [] ∧ r = bl (listOk l n))) (cn_ : nodupB (keysOf ρ) = true) (ca_ : tvsLe ρ s0.loc.length (as0.map (ev s0)) [lst 2 ePut l, int n]) (co_ : locLe ρ s0.loc.length s0.loc s0.fz ρ []) (cl_ : limP al0 s0.loc ρ True) (cT_ : (listOk l n) = true → placesK s0.loc ρ ([].map (AObj.up ρ s0.loc.length)) fun loc' => s0.afterK loc' d0 ((bl true : TV).up ρ s0.loc.length) K0) (cF_ : (listOk l n) = false → placesK s0.loc ρ ([].map (AObj.up ρ s0.loc.length)) fun loc' => s0.afterK loc' d0 ((bl false : TV).up ρ s0.loc.length) K0) : CallAt prog al0 s0 80 as0 d0 K0 :=
  callB ρ cok_ cn_ ca_ co_ cl_ (by rintro r os ⟨rfl, rfl⟩; cases hb : (listOk l n) with | true => exact cT_  hb  | false => exact cF_  hb )
theorem call_l12List {al0 : Lim} {s0 : St} {as0 : List Operand} {d0 : Option Tmp} {K0 : St → Prop} {l : List Put} {n : Int} (ρ : List Sel) (hn : 0 ≤ n ∧ n ≤ 9223372036854775807) (cn_ : nodupB (keysOf ρ) = true) (ca_ : tvsLe ρ s0.loc.length (as0.map (ev s0)) [lst 2 ePut l, int n]) (co_ : locLe ρ s0.loc.length s0.loc s0.fz ρ []) (cl_ : limP al0 s0.loc ρ True) (cT_ : (listOk l n) = true → placesK s0.loc ρ ([].map (AObj.up ρ s0.loc.length)) fun loc' => s0.afterK loc' d0 ((bl true : TV).up ρ s0.loc.length) K0) (cF_ : (listOk l n) = false → placesK s0.loc ρ ([].map (AObj.up ρ s0.loc.length)) fun loc' => s0.afterK loc' d0 ((bl false : TV).up ρ s0.loc.length) K0) : CallAt prog al0 s0 80 as0 d0 K0 :=
  callx_l12List ρ (l12List_ok l n hn) cn_ ca_ co_ cl_ cT_ cF_

theorem l11Find_ok (l : List Put) (c : Int) : CallOK prog 69 [lst 2 ePut l, int c] [] (fun r os => os = [] ∧ r = int (findP l c)) := by
  refine fn_ (D := []) [] tab_ok hmo func69 rfl rfl rfl rfl ?_
  repeat' ((conv => whnf); first | (refine And.intro ?_ ?_) | (intro _))
  apply loop_ (fun i : Nat => i ≤ l.length ∧ ∀ j, j < i → (l.getD j default).cell ≠ c) (fun i : Nat => (⟨20, [(0, lst 2 ePut l), (1, int c), (5, int i)], [], []⟩ : St)) (fun i : Nat => l.length - i)
  · (apply to_ []; apply toAt_ [] 0; rotate_left 1; exact ⟨rfl, rfl, rfl, rfl, ⟨⟨rfl, rfl, fun _ _ => rfl⟩, rfl, rfl, trivial⟩, trivial⟩)
    exact ⟨Nat.zero_le _, fun j hj => absurd hj (Nat.not_lt_zero _)⟩
  · rintro i ⟨h1, h2⟩
    repeat' ((conv => whnf); first | (refine And.intro ?_ ?_) | (intro _))
    all_goals (try simp only [Int.toNat_natCast] at *)
    all_goals first | omega | skip
    · (apply ret_ []; apply retAt0 (r := int _); exact rfl; refine ⟨rfl, ?_⟩)
      rw [findP_at (by omega) (by assumption) h2]
    · (apply to_ []; apply toAt_ [] (i+1); rotate_left 1; exact ⟨rfl, rfl, rfl, rfl, ⟨⟨rfl, rfl, fun _ _ => rfl⟩, rfl, rfl, trivial⟩, trivial⟩)
      refine ⟨⟨by omega, fun j hj => ?_⟩, by omega⟩
      rcases Nat.lt_succ_iff_lt_or_eq.1 hj with h | h
      · exact h2 j h
      · subst h; assumption
    · (apply ret_ []; apply retAt0 (r := int _); exact rfl; refine ⟨rfl, ?_⟩)
      rw [findP_none (fun j hj => h2 j (by omega))]
theorem callx_l11Find {al0 : Lim} {s0 : St} {as0 : List Operand} {d0 : Option Tmp} {K0 : St → Prop} {l : List Put} {c : Int} (ρ : List Sel) (cok_ : CallOK prog 69 [lst 2 ePut l, int c] [] (fun r os => os = [] ∧ r = int (findP l c))) (cn_ : nodupB (keysOf ρ) = true) (ca_ : tvsLe ρ s0.loc.length (as0.map (ev s0)) [lst 2 ePut l, int c]) (co_ : locLe ρ s0.loc.length s0.loc s0.fz ρ []) (cl_ : limP al0 s0.loc ρ True) (ck_ : placesK s0.loc ρ ([].map (AObj.up ρ s0.loc.length)) fun loc' => s0.afterK loc' d0 ((int (findP l c) : TV).up ρ s0.loc.length) K0) : CallAt prog al0 s0 69 as0 d0 K0 :=
  callB ρ cok_ cn_ ca_ co_ cl_ (by rintro r os ⟨rfl, rfl⟩; exact ck_ )
theorem call_l11Find {al0 : Lim} {s0 : St} {as0 : List Operand} {d0 : Option Tmp} {K0 : St → Prop} {l : List Put} {c : Int} (ρ : List Sel) (cn_ : nodupB (keysOf ρ) = true) (ca_ : tvsLe ρ s0.loc.length (as0.map (ev s0)) [lst 2 ePut l, int c]) (co_ : locLe ρ s0.loc.length s0.loc s0.fz ρ []) (cl_ : limP al0 s0.loc ρ True) (ck_ : placesK s0.loc ρ ([].map (AObj.up ρ s0.loc.length)) fun loc' => s0.afterK loc' d0 ((int (findP l c) : TV).up ρ s0.loc.length) K0) : CallAt prog al0 s0 69 as0 d0 K0 :=
  callx_l11Find ρ (l11Find_ok l c) cn_ ca_ co_ cl_ ck_

theorem kidsI_ok (p : DProg) (s : DSys) (task way : Int) : CallOK prog 98 [ptr 0, int task, int way] [.box 120 (eW p s)] (fun r os => os = [.box 120 (eW p s)] ∧ r = int (kidsN s.tasks task way)) := by
  refine fn_ (D := []) [] tab_ok hmo func98 rfl rfl rfl rfl ?_
  repeat' ((conv => whnf); first | (refine And.intro ?_ ?_) | (intro _))
  apply loop_ (fun ((i, n) : (Nat) × (Int)) => i ≤ s.tasks.length ∧ n = kidsN (s.tasks.take i) task way) (fun ((i, n) : (Nat) × (Int)) => (⟨46, [(0, ptr 0), (1, int task), (2, int way), (7, int n), (8, int i)], [.box 120 (eW p s)], []⟩ : St)) (fun ((i, n) : (Nat) × (Int)) => s.tasks.length - i)
  · (apply to_ []; apply toAt_ [.all 0] (0, 0); rotate_left 1; exact ⟨rfl, rfl, rfl, rfl, ⟨rfl, rfl, rfl, rfl, rfl, trivial⟩, ⟨trivial, rfl, ⟨rfl, rfl, fun _ _ => rfl⟩, ⟨rfl, rfl, fun _ _ => rfl⟩, ⟨rfl, rfl, fun _ _ => rfl⟩, ⟨rfl, rfl, fun _ _ => rfl⟩, rfl, ⟨rfl, rfl, fun _ _ => rfl⟩, trivial⟩, trivial⟩)
    exact ⟨Nat.zero_le _, rfl⟩
  · rintro ⟨i, n⟩ ⟨h1, h2⟩
    have hb := kidsN_bound (s.tasks.take i) task way
    have hl : (s.tasks.take i).length ≤ i := by rw [List.length_take]; omega
    repeat' ((conv => whnf); first | (refine And.intro ?_ ?_) | (intro _))
    all_goals (try simp only [Int.toNat_natCast] at *)
    all_goals first | omega | skip
    all_goals first
    | ((apply to_ []; apply toAt_ [.all 0] (i+1, _); rotate_left 1; exact ⟨rfl, rfl, rfl, rfl, ⟨rfl, rfl, rfl, rfl, rfl, trivial⟩, ⟨trivial, rfl, ⟨rfl, rfl, fun _ _ => rfl⟩, ⟨rfl, rfl, fun _ _ => rfl⟩, ⟨rfl, rfl, fun _ _ => rfl⟩, ⟨rfl, rfl, fun _ _ => rfl⟩, rfl, ⟨rfl, rfl, fun _ _ => rfl⟩, trivial⟩, trivial⟩); refine ⟨⟨by omega, ?_⟩, by (try simp only); omega⟩; rw [take_snoc _ _ (by omega), kidsN_snoc]; first | (rw [if_pos (by omega)]; omega) | (rw [if_neg (by omega)]; omega))
    | (apply ret_ []; apply retAt_ [.all 0] (int _) [.box 120 (eW p s)] rfl rfl; exact rfl; exact ⟨⟨trivial, rfl, ⟨rfl, rfl, fun _ _ => rfl⟩, ⟨rfl, rfl, fun _ _ => rfl⟩, ⟨rfl, rfl, fun _ _ => rfl⟩, ⟨rfl, rfl, fun _ _ => rfl⟩, rfl, ⟨rfl, rfl, fun _ _ => rfl⟩, trivial⟩, trivial⟩; exact ⟨rfl, by rw [h2, List.take_of_length_le (by omega)]⟩)
theorem callx_kidsI {al0 : Lim} {s0 : St} {as0 : List Operand} {d0 : Option Tmp} {K0 : St → Prop} {p : DProg} {s : DSys} {task way : Int} (ρ : List Sel) (cok_ : CallOK prog 98 [ptr 0, int task, int way] [.box 120 (eW p s)] (fun r os => os = [.box 120 (eW p s)] ∧ r = int (kidsN s.tasks task way))) (cn_ : nodupB (keysOf ρ) = true) (ca_ : tvsLe ρ s0.loc.length (as0.map (ev s0)) [ptr 0, int task, int way]) (co_ : locLe ρ s0.loc.length s0.loc s0.fz ρ [.box 120 (eW p s)]) (cl_ : limP al0 s0.loc ρ True) (ck_ : placesK s0.loc ρ ([.box 120 (eW p s)].map (AObj.up ρ s0.loc.length)) fun loc' => s0.afterK loc' d0 ((int (kidsN s.tasks task way) : TV).up ρ s0.loc.length) K0) : CallAt prog al0 s0 98 as0 d0 K0 :=
  callB ρ cok_ cn_ ca_ co_ cl_ (by rintro r os ⟨rfl, rfl⟩; exact ck_ )
theorem call_kidsI {al0 : Lim} {s0 : St} {as0 : List Operand} {d0 : Option Tmp} {K0 : St → Prop} {p : DProg} {s : DSys} {task way : Int} (ρ : List Sel) (cn_ : nodupB (keysOf ρ) = true) (ca_ : tvsLe ρ s0.loc.length (as0.map (ev s0)) [ptr 0, int task, int way]) (co_ : locLe ρ s0.loc.length s0.loc s0.fz ρ [.box 120 (eW p s)]) (cl_ : limP al0 s0.loc ρ True) (ck_ : placesK s0.loc ρ ([.box 120 (eW p s)].map (AObj.up ρ s0.loc.length)) fun loc' => s0.afterK loc' d0 ((int (kidsN s.tasks task way) : TV).up ρ s0.loc.length) K0) : CallAt prog al0 s0 98 as0 d0 K0 :=
  callx_kidsI ρ (kidsI_ok p s task way) cn_ ca_ co_ cl_ ck_
end Go.Proofs.AYT
