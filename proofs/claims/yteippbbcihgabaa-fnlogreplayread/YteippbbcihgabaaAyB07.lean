/- A symbolic executor over the model, plain words, and contracts of the program's functions, part 7. Conditions: as each theorem tells. -/
import Derived.Test.YteippbbcihgabaaAyB06
set_option linter.unusedVariables false
set_option linter.unusedSimpArgs false
set_option linter.unusedSectionVars false
namespace Go.Proofs.AYT
open Go Go.Proofs.AY Go.Proofs.Try
theorem l12Holds_ok (t : Task) (c : Int) : CallOK prog 84 [.a (eTask t), int c] [] (fun r os => os = [] ∧ r = bl (holdsB t c)) := by
  refine fn_ (D := []) [] tab_ok hmo func84 rfl rfl rfl rfl ?_
  unfold holdsB
  repeat' ((conv => whnf); first | (refine And.intro ?_ ?_) | (intro _) | (apply call0_ (g := 69); refine call_l11Find []  rfl ⟨⟨rfl, rfl, fun _ _ => rfl⟩, rfl, trivial⟩ trivial (by first | exact trivial | exact ⟨trivial, trivial⟩) ?_))
  all_goals first | omega | skip
  all_goals (apply ret_ []; apply retAt0 (r := bl _); exact rfl; refine ⟨rfl, congrArg bl ?_⟩)
  all_goals first
  | (rw [decide_eq_false (by omega)]; rfl)
  | (rw [decide_eq_true (by omega), decide_eq_true (by omega)]; rfl)
  | (rw [decide_eq_true (by omega), decide_eq_false (by omega)]; rfl)
theorem callx_l12Holds {al0 : Lim} {s0 : St} {as0 : List Operand} {d0 : Option Tmp} {K0 : St → Prop} {t : Task} {c : Int} (ρ : List Sel) (cok_ : CallOK prog 84 [.a (eTask t), int c] [] (fun r os => os = [] ∧ r = bl (holdsB t c))) (cn_ : nodupB (keysOf ρ) = true) (ca_ : tvsLe ρ s0.loc.length (as0.map (ev s0)) [.a (eTask t), int c]) (co_ : locLe ρ s0.loc.length s0.loc s0.fz ρ []) (cl_ : limP al0 s0.loc ρ True) (cT_ : (holdsB t c) = true → placesK s0.loc ρ ([].map (AObj.up ρ s0.loc.length)) fun loc' => s0.afterK loc' d0 ((bl true : TV).up ρ s0.loc.length) K0) (cF_ : (holdsB t c) = false → placesK s0.loc ρ ([].map (AObj.up ρ s0.loc.length)) fun loc' => s0.afterK loc' d0 ((bl false : TV).up ρ s0.loc.length) K0) : CallAt prog al0 s0 84 as0 d0 K0 :=
  callB ρ cok_ cn_ ca_ co_ cl_ (by rintro r os ⟨rfl, rfl⟩; cases hb : (holdsB t c) with | true => exact cT_  hb  | false => exact cF_  hb )
theorem call_l12Holds {al0 : Lim} {s0 : St} {as0 : List Operand} {d0 : Option Tmp} {K0 : St → Prop} {t : Task} {c : Int} (ρ : List Sel) (cn_ : nodupB (keysOf ρ) = true) (ca_ : tvsLe ρ s0.loc.length (as0.map (ev s0)) [.a (eTask t), int c]) (co_ : locLe ρ s0.loc.length s0.loc s0.fz ρ []) (cl_ : limP al0 s0.loc ρ True) (cT_ : (holdsB t c) = true → placesK s0.loc ρ ([].map (AObj.up ρ s0.loc.length)) fun loc' => s0.afterK loc' d0 ((bl true : TV).up ρ s0.loc.length) K0) (cF_ : (holdsB t c) = false → placesK s0.loc ρ ([].map (AObj.up ρ s0.loc.length)) fun loc' => s0.afterK loc' d0 ((bl false : TV).up ρ s0.loc.length) K0) : CallAt prog al0 s0 84 as0 d0 K0 :=
  callx_l12Holds ρ (l12Holds_ok t c) cn_ ca_ co_ cl_ cT_ cF_

theorem l12At_ok (t : Task) (n : Int) (hs : (t.reads.length : Int) + t.puts.length ≤ 9223372036854775807) : CallOK prog 97 [.a (eTask t), int n] [] (fun r os => os = [] ∧ r = bl (atOk t n)) := by
  refine fn_ (D := []) [] tab_ok hmo func97 rfl rfl rfl rfl ?_
  repeat' ((conv => whnf); first | (refine And.intro ?_ ?_) | (intro _) | (apply call0_ (g := 56); refine call_l6In []  rfl ⟨rfl, rfl, rfl, trivial⟩ trivial (by first | exact trivial | exact ⟨trivial, trivial⟩) ?_ ?_))
  all_goals first | omega | skip
  all_goals (apply ret_ []; apply retAt0 (r := bl _); exact rfl; refine ⟨rfl, congrArg bl ?_⟩)
  all_goals first | exact (decide_eq_true (by omega)).symm | exact (decide_eq_false (by omega)).symm
theorem callx_l12At {al0 : Lim} {s0 : St} {as0 : List Operand} {d0 : Option Tmp} {K0 : St → Prop} {t : Task} {n : Int} (ρ : List Sel) (cok_ : CallOK prog 97 [.a (eTask t), int n] [] (fun r os => os = [] ∧ r = bl (atOk t n))) (cn_ : nodupB (keysOf ρ) = true) (ca_ : tvsLe ρ s0.loc.length (as0.map (ev s0)) [.a (eTask t), int n]) (co_ : locLe ρ s0.loc.length s0.loc s0.fz ρ []) (cl_ : limP al0 s0.loc ρ True) (cT_ : (atOk t n) = true → placesK s0.loc ρ ([].map (AObj.up ρ s0.loc.length)) fun loc' => s0.afterK loc' d0 ((bl true : TV).up ρ s0.loc.length) K0) (cF_ : (atOk t n) = false → placesK s0.loc ρ ([].map (AObj.up ρ s0.loc.length)) fun loc' => s0.afterK loc' d0 ((bl false : TV).up ρ s0.loc.length) K0) : CallAt prog al0 s0 97 as0 d0 K0 :=
  callB ρ cok_ cn_ ca_ co_ cl_ (by rintro r os ⟨rfl, rfl⟩; cases hb : (atOk t n) with | true => exact cT_  hb  | false => exact cF_  hb )
theorem call_l12At {al0 : Lim} {s0 : St} {as0 : List Operand} {d0 : Option Tmp} {K0 : St → Prop} {t : Task} {n : Int} (ρ : List Sel) (hs : (t.reads.length : Int) + t.puts.length ≤ 9223372036854775807) (cn_ : nodupB (keysOf ρ) = true) (ca_ : tvsLe ρ s0.loc.length (as0.map (ev s0)) [.a (eTask t), int n]) (co_ : locLe ρ s0.loc.length s0.loc s0.fz ρ []) (cl_ : limP al0 s0.loc ρ True) (cT_ : (atOk t n) = true → placesK s0.loc ρ ([].map (AObj.up ρ s0.loc.length)) fun loc' => s0.afterK loc' d0 ((bl true : TV).up ρ s0.loc.length) K0) (cF_ : (atOk t n) = false → placesK s0.loc ρ ([].map (AObj.up ρ s0.loc.length)) fun loc' => s0.afterK loc' d0 ((bl false : TV).up ρ s0.loc.length) K0) : CallAt prog al0 s0 97 as0 d0 K0 :=
  callx_l12At ρ (l12At_ok t n hs) cn_ ca_ co_ cl_ cT_ cF_

theorem l12Times_ok (t : Task) (s : DSys) (hc : 0 ≤ s.clock ∧ s.clock ≤ 200) : CallOK prog 81 [.a (eTask t), .a (eSys s)] [] (fun r os => os = [] ∧ r = bl (timesOk t s)) := by
  refine fn_ (D := []) [] tab_ok hmo func81 rfl rfl rfl rfl ?_
  repeat' ((conv => whnf); first | (refine And.intro ?_ ?_) | (intro _) | (apply call0_ (g := 56); refine call_l6In []  rfl ⟨rfl, rfl, rfl, trivial⟩ trivial (by first | exact trivial | exact ⟨trivial, trivial⟩) ?_ ?_))
  all_goals first | omega | skip
  all_goals (apply ret_ []; apply retAt0 (r := bl _); exact rfl; refine ⟨rfl, congrArg bl ?_⟩)
  all_goals first | exact (decide_eq_true (by omega)).symm | exact (decide_eq_false (by omega)).symm
theorem callx_l12Times {al0 : Lim} {s0 : St} {as0 : List Operand} {d0 : Option Tmp} {K0 : St → Prop} {t : Task} {s : DSys} (ρ : List Sel) (cok_ : CallOK prog 81 [.a (eTask t), .a (eSys s)] [] (fun r os => os = [] ∧ r = bl (timesOk t s))) (cn_ : nodupB (keysOf ρ) = true) (ca_ : tvsLe ρ s0.loc.length (as0.map (ev s0)) [.a (eTask t), .a (eSys s)]) (co_ : locLe ρ s0.loc.length s0.loc s0.fz ρ []) (cl_ : limP al0 s0.loc ρ True) (cT_ : (timesOk t s) = true → placesK s0.loc ρ ([].map (AObj.up ρ s0.loc.length)) fun loc' => s0.afterK loc' d0 ((bl true : TV).up ρ s0.loc.length) K0) (cF_ : (timesOk t s) = false → placesK s0.loc ρ ([].map (AObj.up ρ s0.loc.length)) fun loc' => s0.afterK loc' d0 ((bl false : TV).up ρ s0.loc.length) K0) : CallAt prog al0 s0 81 as0 d0 K0 :=
  callB ρ cok_ cn_ ca_ co_ cl_ (by rintro r os ⟨rfl, rfl⟩; cases hb : (timesOk t s) with | true => exact cT_  hb  | false => exact cF_  hb )
theorem call_l12Times {al0 : Lim} {s0 : St} {as0 : List Operand} {d0 : Option Tmp} {K0 : St → Prop} {t : Task} {s : DSys} (ρ : List Sel) (hc : 0 ≤ s.clock ∧ s.clock ≤ 200) (cn_ : nodupB (keysOf ρ) = true) (ca_ : tvsLe ρ s0.loc.length (as0.map (ev s0)) [.a (eTask t), .a (eSys s)]) (co_ : locLe ρ s0.loc.length s0.loc s0.fz ρ []) (cl_ : limP al0 s0.loc ρ True) (cT_ : (timesOk t s) = true → placesK s0.loc ρ ([].map (AObj.up ρ s0.loc.length)) fun loc' => s0.afterK loc' d0 ((bl true : TV).up ρ s0.loc.length) K0) (cF_ : (timesOk t s) = false → placesK s0.loc ρ ([].map (AObj.up ρ s0.loc.length)) fun loc' => s0.afterK loc' d0 ((bl false : TV).up ρ s0.loc.length) K0) : CallAt prog al0 s0 81 as0 d0 K0 :=
  callx_l12Times ρ (l12Times_ok t s hc) cn_ ca_ co_ cl_ cT_ cF_

theorem l12Up_ok (s : DSys) (i : Int) (hi : 0 ≤ i ∧ i < s.tasks.length) (hl : s.tasks.length ≤ 7) : CallOK prog 82 [.a (eSys s), int i] [] (fun r os => os = [] ∧ r = bl (upOk s i)) := by
  refine fn_ (D := []) [] tab_ok hmo func82 rfl rfl rfl rfl ?_
  repeat' ((conv => whnf); first | (refine And.intro ?_ ?_) | (intro _) | (apply call0_ (g := 56); refine call_l6In []  rfl ⟨rfl, rfl, rfl, trivial⟩ trivial (by first | exact trivial | exact ⟨trivial, trivial⟩) ?_ ?_))
  all_goals first | omega | skip
  all_goals (apply ret_ []; apply retAt0 (r := bl _); exact rfl; refine ⟨rfl, congrArg bl ?_⟩)
  all_goals first | exact (decide_eq_true (by omega)).symm | exact (decide_eq_false (by omega)).symm
theorem callx_l12Up {al0 : Lim} {s0 : St} {as0 : List Operand} {d0 : Option Tmp} {K0 : St → Prop} {s : DSys} {i : Int} (ρ : List Sel) (cok_ : CallOK prog 82 [.a (eSys s), int i] [] (fun r os => os = [] ∧ r = bl (upOk s i))) (cn_ : nodupB (keysOf ρ) = true) (ca_ : tvsLe ρ s0.loc.length (as0.map (ev s0)) [.a (eSys s), int i]) (co_ : locLe ρ s0.loc.length s0.loc s0.fz ρ []) (cl_ : limP al0 s0.loc ρ True) (cT_ : (upOk s i) = true → placesK s0.loc ρ ([].map (AObj.up ρ s0.loc.length)) fun loc' => s0.afterK loc' d0 ((bl true : TV).up ρ s0.loc.length) K0) (cF_ : (upOk s i) = false → placesK s0.loc ρ ([].map (AObj.up ρ s0.loc.length)) fun loc' => s0.afterK loc' d0 ((bl false : TV).up ρ s0.loc.length) K0) : CallAt prog al0 s0 82 as0 d0 K0 :=
  callB ρ cok_ cn_ ca_ co_ cl_ (by rintro r os ⟨rfl, rfl⟩; cases hb : (upOk s i) with | true => exact cT_  hb  | false => exact cF_  hb )
theorem call_l12Up {al0 : Lim} {s0 : St} {as0 : List Operand} {d0 : Option Tmp} {K0 : St → Prop} {s : DSys} {i : Int} (ρ : List Sel) (hi : 0 ≤ i ∧ i < s.tasks.length) (hl : s.tasks.length ≤ 7) (cn_ : nodupB (keysOf ρ) = true) (ca_ : tvsLe ρ s0.loc.length (as0.map (ev s0)) [.a (eSys s), int i]) (co_ : locLe ρ s0.loc.length s0.loc s0.fz ρ []) (cl_ : limP al0 s0.loc ρ True) (cT_ : (upOk s i) = true → placesK s0.loc ρ ([].map (AObj.up ρ s0.loc.length)) fun loc' => s0.afterK loc' d0 ((bl true : TV).up ρ s0.loc.length) K0) (cF_ : (upOk s i) = false → placesK s0.loc ρ ([].map (AObj.up ρ s0.loc.length)) fun loc' => s0.afterK loc' d0 ((bl false : TV).up ρ s0.loc.length) K0) : CallAt prog al0 s0 82 as0 d0 K0 :=
  callx_l12Up ρ (l12Up_ok s i hi hl) cn_ ca_ co_ cl_ cT_ cF_

def plans83 : Plans := [(6, ⟨.take 0 false (.take 1 true (.take 2 false (.take 3 false (.take 4 false (.take 6 false (.take 7 false (.take 5 true (.take 8 false (.take 9 false (.take 10 false (.take 11 false (.take 12 true (.take 13 false (.take 14 false (.take 15 true (.take 16 false (.take 17 false (.take 18 false (.take 20 false (.take 21 false (.take 19 true (.take 22 true (.take 23 false (.take 24 false (.take 25 true (.take 26 false (.alt 27 (.take 28 false (.take 29 false (.take 30 false .done))) .done))))))))))))))))))))))))))), [], []⟩)]
theorem plans83_ok : plansOk plans83 (bodyOf f83) = true := by kernel_rfl
theorem l12Act_ok (p : DProg) (s : DSys) (i : Int) (hi : 0 ≤ i ∧ i < s.tasks.length) (hl : s.tasks.length ≤ 7) (ht : taskP1 p (s.tasks.getD i.toNat default)) (hs : ((s.tasks.getD i.toNat default).reads.length : Int) + (s.tasks.getD i.toNat default).puts.length ≤ 9223372036854775807) : CallOK prog 83 [.a (eProg p), .a (eSys s), int i] [] (fun r os => os = [] ∧ r = bl (actStands p s i (s.tasks.getD i.toNat default))) := by
  refine fn_ [] tab_ok hmo func83 rfl rfl plans83_ok rfl ?_
  obtain ⟨ht1, ht2, ht3, ht4⟩ := ht
  have k0 := kidsN_bound s.tasks i 0
  have k1 := kidsN_bound s.tasks i 1
  have k2 := kidsN_bound s.tasks i 2
  have k3 := kidsN_bound s.tasks i 3
  unfold actStands
  simp only [actsOf, actAt] at ht2 ⊢
  repeat' ((conv => whnf); first | (refine And.intro ?_ ?_) | (intro _) | (apply call0_ (g := 97); refine call_l12At [] (t := s.tasks.getD i.toNat default) hs rfl ⟨⟨rfl, rfl, rfl, ⟨rfl, rfl, fun _ _ => rfl⟩, rfl, rfl, rfl, rfl, ⟨rfl, rfl, fun _ _ => rfl⟩, ⟨rfl, rfl, fun _ _ => rfl⟩, ⟨rfl, rfl, fun _ _ => rfl⟩, rfl, rfl, trivial⟩, rfl, trivial⟩ trivial (by first | exact trivial | exact ⟨trivial, trivial⟩) ?_ ?_) | (apply call0_ (g := 98); refine call_kidsI [.all 3]  rfl ⟨rfl, rfl, rfl, trivial⟩ ⟨⟨trivial, rfl, ⟨rfl, rfl, fun _ _ => rfl⟩, ⟨rfl, rfl, fun _ _ => rfl⟩, ⟨rfl, rfl, fun _ _ => rfl⟩, ⟨rfl, rfl, fun _ _ => rfl⟩, rfl, ⟨rfl, rfl, fun _ _ => rfl⟩, trivial⟩, trivial⟩ (by first | exact trivial | exact ⟨⟨rfl, Nat.le_refl _, trivial⟩, trivial⟩ | exact ⟨⟨rfl, trivial, trivial⟩, trivial⟩) ?_))
  all_goals first | omega | skip
  all_goals (apply ret_ []; apply retAt0 (r := bl _); exact rfl; refine ⟨rfl, congrArg bl ?_⟩)
  all_goals first
  | (rw [if_pos (by omega), decide_eq_true (by omega)]; rfl)
  | (rw [if_pos (by omega), decide_eq_false (by omega), decide_eq_false (by omega)]; rfl)
  | (rename_i hk; rw [if_pos (by omega), decide_eq_false (by omega), decide_eq_true (by omega), hk]; rfl)
  | (rw [if_neg (by omega), if_pos (by omega), decide_eq_false (by omega)]; rfl)
  | (rw [if_neg (by omega), if_pos (by omega), decide_eq_true (by omega), decide_eq_true (by omega)]; rfl)
  | (rw [if_neg (by omega), if_pos (by omega), decide_eq_true (by omega), decide_eq_false (by omega)]; rfl)
  | (rw [if_neg (by omega), if_neg (by omega), if_pos (by omega), decide_eq_true (by omega)]; done)
  | (rw [if_neg (by omega), if_neg (by omega), if_pos (by omega), decide_eq_false (by omega)]; done)
  | (rw [if_neg (by omega), if_neg (by omega), if_neg (by omega)]; done)
theorem callx_l12Act {al0 : Lim} {s0 : St} {as0 : List Operand} {d0 : Option Tmp} {K0 : St → Prop} {p : DProg} {s : DSys} {i : Int} (ρ : List Sel) (cok_ : CallOK prog 83 [.a (eProg p), .a (eSys s), int i] [] (fun r os => os = [] ∧ r = bl (actStands p s i (s.tasks.getD i.toNat default)))) (cn_ : nodupB (keysOf ρ) = true) (ca_ : tvsLe ρ s0.loc.length (as0.map (ev s0)) [.a (eProg p), .a (eSys s), int i]) (co_ : locLe ρ s0.loc.length s0.loc s0.fz ρ []) (cl_ : limP al0 s0.loc ρ True) (cT_ : (actStands p s i (s.tasks.getD i.toNat default)) = true → placesK s0.loc ρ ([].map (AObj.up ρ s0.loc.length)) fun loc' => s0.afterK loc' d0 ((bl true : TV).up ρ s0.loc.length) K0) (cF_ : (actStands p s i (s.tasks.getD i.toNat default)) = false → placesK s0.loc ρ ([].map (AObj.up ρ s0.loc.length)) fun loc' => s0.afterK loc' d0 ((bl false : TV).up ρ s0.loc.length) K0) : CallAt prog al0 s0 83 as0 d0 K0 :=
  callB ρ cok_ cn_ ca_ co_ cl_ (by rintro r os ⟨rfl, rfl⟩; cases hb : (actStands p s i (s.tasks.getD i.toNat default)) with | true => exact cT_  hb  | false => exact cF_  hb )
theorem call_l12Act {al0 : Lim} {s0 : St} {as0 : List Operand} {d0 : Option Tmp} {K0 : St → Prop} {p : DProg} {s : DSys} {i : Int} (ρ : List Sel) (hi : 0 ≤ i ∧ i < s.tasks.length) (hl : s.tasks.length ≤ 7) (ht : taskP1 p (s.tasks.getD i.toNat default)) (hs : ((s.tasks.getD i.toNat default).reads.length : Int) + (s.tasks.getD i.toNat default).puts.length ≤ 9223372036854775807) (cn_ : nodupB (keysOf ρ) = true) (ca_ : tvsLe ρ s0.loc.length (as0.map (ev s0)) [.a (eProg p), .a (eSys s), int i]) (co_ : locLe ρ s0.loc.length s0.loc s0.fz ρ []) (cl_ : limP al0 s0.loc ρ True) (cT_ : (actStands p s i (s.tasks.getD i.toNat default)) = true → placesK s0.loc ρ ([].map (AObj.up ρ s0.loc.length)) fun loc' => s0.afterK loc' d0 ((bl true : TV).up ρ s0.loc.length) K0) (cF_ : (actStands p s i (s.tasks.getD i.toNat default)) = false → placesK s0.loc ρ ([].map (AObj.up ρ s0.loc.length)) fun loc' => s0.afterK loc' d0 ((bl false : TV).up ρ s0.loc.length) K0) : CallAt prog al0 s0 83 as0 d0 K0 :=
  callx_l12Act ρ (l12Act_ok p s i hi hl ht hs) cn_ ca_ co_ cl_ cT_ cF_
end Go.Proofs.AYT
namespace Go.Proofs.AYT
open Go Go.Proofs.AY Go.Proofs.Try
def plans57 : Plans := [(2, ⟨.take 0 false (.take 2 false (.take 1 true (.take 3 true (.take 4 false (.take 5 false (.alt 6 (.take 7 false (.take 8 false (.take 9 false (.take 11 false (.take 13 false (.take 10 true (.take 12 true (.take 14 true (.take 15 false (.take 16 true (.take 17 false (.alt 18 (.take 19 false (.take 20 false (.take 21 false (.take 22 false (.take 23 true (.alt 24 (.take 25 false (.take 26 false (.take 27 false (.take 28 false (.take 29 true (.alt 30 (.take 31 false (.take 32 false .done)) .done)))))) .done)))))) .done)))))))))))) .done)))))), [], []⟩)]
theorem plans57_ok : plansOk plans57 (bodyOf f57) = true := by kernel_rfl
theorem l12Task_ok (p : DProg) (s : DSys) (i : Int) (hi : 0 ≤ i ∧ i < s.tasks.length) (hl : s.tasks.length ≤ 7) (hc : 0 ≤ s.clock ∧ s.clock ≤ 200) (hs : s.cells.length ≤ 3) : CallOK prog 57 [.a (eProg p), .a (eSys s), int i] [] (fun r os => os = [] ∧ r = bl (taskOk p s i (s.tasks.getD i.toNat default))) := by
  refine fn_ [6, 7] tab_ok hmo func57 rfl rfl plans57_ok rfl ?_
  generalize ht : s.tasks.getD i.toNat default = t
  unfold taskOk
  have hj : ∀ j, j = i.toNat → s.tasks.getD j default = t := fun j e => by rw [e]; exact ht
  subst ht
  repeat' ((conv => whnf); first | (refine And.intro ?_ ?_) | (intro _) | (apply call0_ (g := 56); refine call_l6In []  rfl ⟨rfl, rfl, rfl, trivial⟩ trivial (by first | exact trivial | exact ⟨trivial, trivial⟩) ?_ ?_))
  all_goals first | omega | ((apply ret_ []; apply retAt0 (r := bl _); exact rfl; refine ⟨rfl, congrArg bl ?_⟩); rw [decide_eq_false (by simp only [taskP1, actsOf]; omega)]; rfl) | skip
  have h1 : taskP1 p (s.tasks.getD i.toNat default) := ⟨by omega, by (simp only [actsOf]; omega), by omega, by omega⟩
  rw [decide_eq_true h1, Bool.true_and]
  clear hj
  apply cut_ (fun u : Unit => ¬ ((s.tasks.getD i.toNat default).way ≠ 0 ∧ (s.tasks.getD i.toNat default).stage ≠ 0) ∧ numsOk (s.tasks.getD i.toNat default).regs 3 = true ∧ numsOk (s.tasks.getD i.toNat default).old 3 = true ∧ listOk (s.tasks.getD i.toNat default).reads s.cells.length = true ∧ listOk (s.tasks.getD i.toNat default).puts s.cells.length = true) (fun u : Unit => (⟨120, [(2, int i), (3, ptr 0), (4, ptr 1), (7, ptr 2)], [.box 44 (eProg p), .box 27 (eSys s), .box 49 (eTask (s.tasks.getD i.toNat default))], []⟩ : St))
  · repeat' ((conv => whnf); first | (refine And.intro ?_ ?_) | (intro _) | (apply call0_ (g := 79); refine call_l2Nums []  rfl ⟨⟨rfl, rfl, fun _ _ => rfl⟩, rfl, trivial⟩ trivial (by first | exact trivial | exact ⟨trivial, trivial⟩) ?_ ?_) | (apply call0_ (g := 80); refine call_l12List [] (by omega) rfl ⟨⟨rfl, rfl, fun _ _ => rfl⟩, rfl, trivial⟩ trivial (by first | exact trivial | exact ⟨trivial, trivial⟩) ?_ ?_))
    all_goals first
    | omega
    | ((apply to_ []; apply toAt_ [.all 0, .all 1, .all 2] (); rotate_left 1; exact ⟨rfl, rfl, rfl, rfl, ⟨rfl, rfl, rfl, rfl, trivial⟩, ⟨trivial, rfl, ⟨rfl, rfl, fun _ _ => rfl⟩, ⟨rfl, rfl, fun _ _ => rfl⟩, trivial⟩, ⟨trivial, rfl, ⟨rfl, rfl, fun _ _ => rfl⟩, ⟨rfl, rfl, fun _ _ => rfl⟩, rfl, ⟨rfl, rfl, fun _ _ => rfl⟩, trivial⟩, ⟨trivial, rfl, rfl, rfl, rfl, ⟨rfl, rfl, fun _ _ => rfl⟩, rfl, rfl, rfl, rfl, ⟨rfl, rfl, fun _ _ => rfl⟩, ⟨rfl, rfl, fun _ _ => rfl⟩, ⟨rfl, rfl, fun _ _ => rfl⟩, rfl, rfl, trivial⟩, trivial⟩); exact ⟨by omega, by assumption, by assumption, by assumption, by assumption⟩)
    | skip
    all_goals (apply ret_ []; apply retAt0 (r := bl _); exact rfl; refine ⟨rfl, congrArg bl ?_⟩)
    · rw [decide_eq_true (by omega)]; rfl
    all_goals (rw [decide_eq_false (by omega)]; simp only [Bool.not_false, Bool.true_and])
    all_goals simp only [*, Bool.false_and, Bool.and_false, Bool.true_and]
  · rintro _ ⟨g1, g2, g3, g4, g5⟩
    have hr := listOk_len g4 (by omega)
    have hq := listOk_len g5 (by omega)
    rw [decide_eq_false g1, g2, g3, g4, g5]
    simp only [Bool.not_false, Bool.true_and]
    apply cut_ (fun b : Bool => b = decide (taskP2 (s.tasks.getD i.toNat default))) (fun b : Bool => (⟨120, [(2, int i), (3, ptr 0), (4, ptr 1), (7, ptr 2), (8, bl b)], [.box 44 (eProg p), .box 27 (eSys s), .box 49 (eTask (s.tasks.getD i.toNat default))], []⟩ : St))
    · repeat' ((conv => whnf); first | (refine And.intro ?_ ?_) | (intro _))
      all_goals first
      | omega
      | ((apply to_ []; apply toAt_ [.all 0, .all 1, .all 2] true; rotate_left 1; exact ⟨rfl, rfl, rfl, rfl, ⟨rfl, rfl, rfl, rfl, rfl, trivial⟩, ⟨trivial, rfl, ⟨rfl, rfl, fun _ _ => rfl⟩, ⟨rfl, rfl, fun _ _ => rfl⟩, trivial⟩, ⟨trivial, rfl, ⟨rfl, rfl, fun _ _ => rfl⟩, ⟨rfl, rfl, fun _ _ => rfl⟩, rfl, ⟨rfl, rfl, fun _ _ => rfl⟩, trivial⟩, ⟨trivial, rfl, rfl, rfl, rfl, ⟨rfl, rfl, fun _ _ => rfl⟩, rfl, rfl, rfl, rfl, ⟨rfl, rfl, fun _ _ => rfl⟩, ⟨rfl, rfl, fun _ _ => rfl⟩, ⟨rfl, rfl, fun _ _ => rfl⟩, rfl, rfl, trivial⟩, trivial⟩); exact (decide_eq_true (by omega)).symm)
      | ((apply to_ []; apply toAt_ [.all 0, .all 1, .all 2] false; rotate_left 1; exact ⟨rfl, rfl, rfl, rfl, ⟨rfl, rfl, rfl, rfl, rfl, trivial⟩, ⟨trivial, rfl, ⟨rfl, rfl, fun _ _ => rfl⟩, ⟨rfl, rfl, fun _ _ => rfl⟩, trivial⟩, ⟨trivial, rfl, ⟨rfl, rfl, fun _ _ => rfl⟩, ⟨rfl, rfl, fun _ _ => rfl⟩, rfl, ⟨rfl, rfl, fun _ _ => rfl⟩, trivial⟩, ⟨trivial, rfl, rfl, rfl, rfl, ⟨rfl, rfl, fun _ _ => rfl⟩, rfl, rfl, rfl, rfl, ⟨rfl, rfl, fun _ _ => rfl⟩, ⟨rfl, rfl, fun _ _ => rfl⟩, ⟨rfl, rfl, fun _ _ => rfl⟩, rfl, rfl, trivial⟩, trivial⟩); exact (decide_eq_false (by omega)).symm)
    · intro b hb
      rw [← hb]
      cases b with
      | false =>
        repeat' ((conv => whnf); first | (refine And.intro ?_ ?_) | (intro _))
        all_goals (apply ret_ []; apply retAt0 (r := bl _); exact rfl; refine ⟨rfl, congrArg bl ?_⟩)
        all_goals rfl
      | true =>
        repeat' ((conv => whnf); first | (refine And.intro ?_ ?_) | (intro _) | (apply call0_ (g := 81); refine call_l12Times [] hc rfl ⟨⟨rfl, rfl, rfl, ⟨rfl, rfl, fun _ _ => rfl⟩, rfl, rfl, rfl, rfl, ⟨rfl, rfl, fun _ _ => rfl⟩, ⟨rfl, rfl, fun _ _ => rfl⟩, ⟨rfl, rfl, fun _ _ => rfl⟩, rfl, rfl, trivial⟩, ⟨⟨rfl, rfl, fun _ _ => rfl⟩, ⟨rfl, rfl, fun _ _ => rfl⟩, rfl, ⟨rfl, rfl, fun _ _ => rfl⟩, trivial⟩, trivial⟩ trivial (by first | exact trivial | exact ⟨trivial, trivial⟩) ?_ ?_) | (apply call0_ (g := 82); refine call_l12Up [] hi hl rfl ⟨⟨⟨rfl, rfl, fun _ _ => rfl⟩, ⟨rfl, rfl, fun _ _ => rfl⟩, rfl, ⟨rfl, rfl, fun _ _ => rfl⟩, trivial⟩, rfl, trivial⟩ trivial (by first | exact trivial | exact ⟨trivial, trivial⟩) ?_ ?_) | (apply call0_ (g := 83); refine call_l12Act [] hi hl h1 (by omega) rfl ⟨⟨⟨rfl, rfl, fun _ _ => rfl⟩, ⟨rfl, rfl, fun _ _ => rfl⟩, trivial⟩, ⟨⟨rfl, rfl, fun _ _ => rfl⟩, ⟨rfl, rfl, fun _ _ => rfl⟩, rfl, ⟨rfl, rfl, fun _ _ => rfl⟩, trivial⟩, rfl, trivial⟩ trivial (by first | exact trivial | exact ⟨trivial, trivial⟩) ?_ ?_))
        all_goals first | omega | skip
        all_goals (apply ret_ []; apply retAt0 (r := bl _); exact rfl; refine ⟨rfl, congrArg bl ?_⟩)
        all_goals clear hb
        all_goals simp only [*, Bool.false_and, Bool.and_false, Bool.true_and]
theorem callx_l12Task {al0 : Lim} {s0 : St} {as0 : List Operand} {d0 : Option Tmp} {K0 : St → Prop} {p : DProg} {s : DSys} {i : Int} (ρ : List Sel) (cok_ : CallOK prog 57 [.a (eProg p), .a (eSys s), int i] [] (fun r os => os = [] ∧ r = bl (taskOk p s i (s.tasks.getD i.toNat default)))) (cn_ : nodupB (keysOf ρ) = true) (ca_ : tvsLe ρ s0.loc.length (as0.map (ev s0)) [.a (eProg p), .a (eSys s), int i]) (co_ : locLe ρ s0.loc.length s0.loc s0.fz ρ []) (cl_ : limP al0 s0.loc ρ True) (cT_ : (taskOk p s i (s.tasks.getD i.toNat default)) = true → placesK s0.loc ρ ([].map (AObj.up ρ s0.loc.length)) fun loc' => s0.afterK loc' d0 ((bl true : TV).up ρ s0.loc.length) K0) (cF_ : (taskOk p s i (s.tasks.getD i.toNat default)) = false → placesK s0.loc ρ ([].map (AObj.up ρ s0.loc.length)) fun loc' => s0.afterK loc' d0 ((bl false : TV).up ρ s0.loc.length) K0) : CallAt prog al0 s0 57 as0 d0 K0 :=
  callB ρ cok_ cn_ ca_ co_ cl_ (by rintro r os ⟨rfl, rfl⟩; cases hb : (taskOk p s i (s.tasks.getD i.toNat default)) with | true => exact cT_  hb  | false => exact cF_  hb )
theorem call_l12Task {al0 : Lim} {s0 : St} {as0 : List Operand} {d0 : Option Tmp} {K0 : St → Prop} {p : DProg} {s : DSys} {i : Int} (ρ : List Sel) (hi : 0 ≤ i ∧ i < s.tasks.length) (hl : s.tasks.length ≤ 7) (hc : 0 ≤ s.clock ∧ s.clock ≤ 200) (hs : s.cells.length ≤ 3) (cn_ : nodupB (keysOf ρ) = true) (ca_ : tvsLe ρ s0.loc.length (as0.map (ev s0)) [.a (eProg p), .a (eSys s), int i]) (co_ : locLe ρ s0.loc.length s0.loc s0.fz ρ []) (cl_ : limP al0 s0.loc ρ True) (cT_ : (taskOk p s i (s.tasks.getD i.toNat default)) = true → placesK s0.loc ρ ([].map (AObj.up ρ s0.loc.length)) fun loc' => s0.afterK loc' d0 ((bl true : TV).up ρ s0.loc.length) K0) (cF_ : (taskOk p s i (s.tasks.getD i.toNat default)) = false → placesK s0.loc ρ ([].map (AObj.up ρ s0.loc.length)) fun loc' => s0.afterK loc' d0 ((bl false : TV).up ρ s0.loc.length) K0) : CallAt prog al0 s0 57 as0 d0 K0 :=
  callx_l12Task ρ (l12Task_ok p s i hi hl hc hs) cn_ ca_ co_ cl_ cT_ cF_
end Go.Proofs.AYT
namespace Go.Proofs.AYT
open Go Go.Proofs.AY Go.Proofs.Try
def plans58 : Plans := [(10, ⟨.take 0 false (.take 2 false (.take 5 false (.take 7 false (.take 9 false (.take 1 true (.take 3 false (.take 4 true (.take 8 true (.take 10 false (.alt 6 (.take 11 false .done) .done)))))))))), [], []⟩)]
theorem plans58_ok : plansOk plans58 (bodyOf f58) = true := by kernel_rfl
theorem l12Cells_ok (s : DSys) (hl : s.tasks.length ≤ 7) : CallOK prog 58 [.a (eSys s)] [] (fun r os => os = [] ∧ r = bl (cellsOk s)) := by
  refine fn_ [] tab_ok hmo func58 rfl rfl plans58_ok rfl ?_
  repeat' ((conv => whnf); first | (refine And.intro ?_ ?_) | (intro _))
  apply loop_ (fun i : Nat => i ≤ s.cells.length ∧ upTo (cellOk s) i) (fun i : Nat => (⟨59, [(1, ptr 0), (3, int i)], [.box 27 (eSys s)], []⟩ : St)) (fun i : Nat => s.cells.length - i)
  · (apply to_ []; apply toAt_ [.all 0] 0; rotate_left 1; exact ⟨rfl, rfl, rfl, rfl, ⟨rfl, rfl, trivial⟩, ⟨trivial, rfl, ⟨rfl, rfl, fun _ _ => rfl⟩, ⟨rfl, rfl, fun _ _ => rfl⟩, rfl, ⟨rfl, rfl, fun _ _ => rfl⟩, trivial⟩, trivial⟩)
    exact ⟨Nat.zero_le _, upTo_zero _⟩
  · rintro i ⟨h1, h2⟩
    repeat' ((conv => whnf); first | (refine And.intro ?_ ?_) | (intro _) | (apply call0_ (g := 56); refine call_l6In []  rfl ⟨rfl, rfl, rfl, trivial⟩ trivial (by first | exact trivial | exact ⟨trivial, trivial⟩) ?_ ?_))
    all_goals (try simp only [Int.toNat_natCast] at *)
    all_goals first | omega | skip
    · apply loop_ (fun k : Nat => k ≤ s.tasks.length ∧ upTo (holdOk s i) k) (fun k : Nat => (⟨59, [(1, ptr 0), (3, int i), (4, ptr 1), (5, int k)], [.box 27 (eSys s), .box 33 (eCell (s.cells.getD i default))], []⟩ : St)) (fun k : Nat => s.tasks.length - k)
      · (apply to_ []; apply toAt_ [.all 0, .all 1] 0; rotate_left 1; exact ⟨rfl, rfl, rfl, rfl, ⟨rfl, rfl, rfl, rfl, trivial⟩, ⟨trivial, rfl, ⟨rfl, rfl, fun _ _ => rfl⟩, ⟨rfl, rfl, fun _ _ => rfl⟩, rfl, ⟨rfl, rfl, fun _ _ => rfl⟩, trivial⟩, ⟨trivial, rfl, rfl, rfl, rfl, trivial⟩, trivial⟩)
        exact ⟨Nat.zero_le _, upTo_zero _⟩
      · rintro k ⟨g1, g2⟩
        repeat' ((conv => whnf); first | (refine And.intro ?_ ?_) | (intro _) | (apply call0_ (g := 84); refine call_l12Holds []  rfl ⟨⟨rfl, rfl, rfl, ⟨rfl, rfl, fun _ _ => rfl⟩, rfl, rfl, rfl, rfl, ⟨rfl, rfl, fun _ _ => rfl⟩, ⟨rfl, rfl, fun _ _ => rfl⟩, ⟨rfl, rfl, fun _ _ => rfl⟩, rfl, rfl, trivial⟩, rfl, trivial⟩ trivial (by first | exact trivial | exact ⟨trivial, trivial⟩) ?_ ?_))
        all_goals (try simp only [Int.toNat_natCast] at *)
        all_goals first | omega | skip
        all_goals first
        | (rename_i hk hh
           (apply to_ []; apply toAt_ [.all 0, .all 1] (k+1); rotate_left 1; exact ⟨rfl, rfl, rfl, rfl, ⟨rfl, rfl, rfl, rfl, trivial⟩, ⟨trivial, rfl, ⟨rfl, rfl, fun _ _ => rfl⟩, ⟨rfl, rfl, fun _ _ => rfl⟩, rfl, ⟨rfl, rfl, fun _ _ => rfl⟩, trivial⟩, ⟨trivial, rfl, rfl, rfl, rfl, trivial⟩, trivial⟩)
           exact ⟨⟨by omega, upTo_succ g2 (by unfold holdOk; rw [hh]; first | (rw [decide_eq_true (by omega)]; rfl) | (rw [decide_eq_false (by omega)]; rfl))⟩, by omega⟩)
        | (rename_i hk hh
           (apply ret_ []; apply retAt0 (r := bl _); exact rfl; refine ⟨rfl, congrArg bl ?_⟩)
           have e : holdOk s i k = false := by
             unfold holdOk; rw [hh]; first | (rw [decide_eq_true (by omega)]; rfl) | (rw [decide_eq_false (by omega)]; rfl)
           unfold cellsOk
           rw [allTo_not (j := i) (by omega) (by unfold cellOk; rw [allTo_not (j := k) (by omega) e, Bool.and_false])])
        | ((apply to_ []; apply toAt_ [.all 0] (i+1); rotate_left 1; exact ⟨rfl, rfl, rfl, rfl, ⟨rfl, rfl, trivial⟩, ⟨trivial, rfl, ⟨rfl, rfl, fun _ _ => rfl⟩, ⟨rfl, rfl, fun _ _ => rfl⟩, rfl, ⟨rfl, rfl, fun _ _ => rfl⟩, trivial⟩, trivial⟩)
           exact ⟨⟨by omega, upTo_succ h2 (by unfold cellOk cellP; rw [decide_eq_true (by omega), allTo_of (fun j hj => g2 j (by omega))]; rfl)⟩, by omega⟩)
    all_goals first
    | ((apply ret_ []; apply retAt0 (r := bl _); exact rfl; refine ⟨rfl, congrArg bl ?_⟩)
       unfold cellsOk
       rw [allTo_not (j := i) (by omega) (by unfold cellOk cellP; rw [decide_eq_false (by omega), Bool.false_and])]
       done)
    | ((apply ret_ []; apply retAt0 (r := bl _); exact rfl; refine ⟨rfl, congrArg bl ?_⟩)
       unfold cellsOk
       rw [allTo_of (fun j hj => h2 j (by omega))])
theorem callx_l12Cells {al0 : Lim} {s0 : St} {as0 : List Operand} {d0 : Option Tmp} {K0 : St → Prop} {s : DSys} (ρ : List Sel) (cok_ : CallOK prog 58 [.a (eSys s)] [] (fun r os => os = [] ∧ r = bl (cellsOk s))) (cn_ : nodupB (keysOf ρ) = true) (ca_ : tvsLe ρ s0.loc.length (as0.map (ev s0)) [.a (eSys s)]) (co_ : locLe ρ s0.loc.length s0.loc s0.fz ρ []) (cl_ : limP al0 s0.loc ρ True) (cT_ : (cellsOk s) = true → placesK s0.loc ρ ([].map (AObj.up ρ s0.loc.length)) fun loc' => s0.afterK loc' d0 ((bl true : TV).up ρ s0.loc.length) K0) (cF_ : (cellsOk s) = false → placesK s0.loc ρ ([].map (AObj.up ρ s0.loc.length)) fun loc' => s0.afterK loc' d0 ((bl false : TV).up ρ s0.loc.length) K0) : CallAt prog al0 s0 58 as0 d0 K0 :=
  callB ρ cok_ cn_ ca_ co_ cl_ (by rintro r os ⟨rfl, rfl⟩; cases hb : (cellsOk s) with | true => exact cT_  hb  | false => exact cF_  hb )
theorem call_l12Cells {al0 : Lim} {s0 : St} {as0 : List Operand} {d0 : Option Tmp} {K0 : St → Prop} {s : DSys} (ρ : List Sel) (hl : s.tasks.length ≤ 7) (cn_ : nodupB (keysOf ρ) = true) (ca_ : tvsLe ρ s0.loc.length (as0.map (ev s0)) [.a (eSys s)]) (co_ : locLe ρ s0.loc.length s0.loc s0.fz ρ []) (cl_ : limP al0 s0.loc ρ True) (cT_ : (cellsOk s) = true → placesK s0.loc ρ ([].map (AObj.up ρ s0.loc.length)) fun loc' => s0.afterK loc' d0 ((bl true : TV).up ρ s0.loc.length) K0) (cF_ : (cellsOk s) = false → placesK s0.loc ρ ([].map (AObj.up ρ s0.loc.length)) fun loc' => s0.afterK loc' d0 ((bl false : TV).up ρ s0.loc.length) K0) : CallAt prog al0 s0 58 as0 d0 K0 :=
  callx_l12Cells ρ (l12Cells_ok s hl) cn_ ca_ co_ cl_ cT_ cF_

def plans59 : Plans := [(7, ⟨.take 0 false (.take 2 false (.take 4 false (.take 6 false (.take 1 true (.take 3 true (.take 5 true (.take 7 true (.take 8 false (.take 9 false (.take 10 true (.take 11 false (.take 12 true (.take 13 false (.take 14 false (.alt 15 (.take 16 false .done) .done))))))))))))))), [], []⟩)]
theorem plans59_ok : plansOk plans59 (bodyOf f59) = true := by kernel_rfl
set_option maxRecDepth 100000 in
theorem l12Log_ok (p : DProg) (s : DSys) (hl : s.tasks.length ≤ 7) (hc : s.cells.length ≤ 3) (hb : ∀ k, k < s.tasks.length → 0 ≤ (s.tasks.getD k default).body ∧ (s.tasks.getD k default).body ≤ p.bodies.length - 1) : CallOK prog 59 [.a (eProg p), .a (eSys s)] [] (fun r os => os = [] ∧ r = bl (logOk p s)) := by
  refine fn_ [] tab_ok hmo func59 rfl rfl plans59_ok rfl ?_
  repeat' ((conv => whnf); first | (refine And.intro ?_ ?_) | (intro _))
  apply loop_ (fun i : Nat => i ≤ s.log.length ∧ upTo (entryOk p s) i) (fun i : Nat => (⟨77, [(2, ptr 0), (3, ptr 1), (5, int i)], [.box 44 (eProg p), .box 27 (eSys s)], []⟩ : St)) (fun i : Nat => s.log.length - i)
  · (apply to_ []; apply toAt_ [.all 0, .all 1] 0; rotate_left 1; exact ⟨rfl, rfl, rfl, rfl, ⟨rfl, rfl, rfl, trivial⟩, ⟨trivial, rfl, ⟨rfl, rfl, fun _ _ => rfl⟩, ⟨rfl, rfl, fun _ _ => rfl⟩, trivial⟩, ⟨trivial, rfl, ⟨rfl, rfl, fun _ _ => rfl⟩, ⟨rfl, rfl, fun _ _ => rfl⟩, rfl, ⟨rfl, rfl, fun _ _ => rfl⟩, trivial⟩, trivial⟩)
    exact ⟨Nat.zero_le _, upTo_zero _⟩
  · rintro i ⟨h1, h2⟩
    have hb' : 0 ≤ (s.log.getD i default).task ∧ (s.log.getD i default).task ≤ s.tasks.length - 1 → 0 ≤ (s.tasks.getD (s.log.getD i default).task.toNat default).body ∧ (s.tasks.getD (s.log.getD i default).task.toNat default).body ≤ p.bodies.length - 1 := fun h => hb _ (by omega)
    repeat' ((conv => whnf); first | (refine And.intro ?_ ?_) | (intro _) | (apply call0_ (g := 56); refine call_l6In []  rfl ⟨rfl, rfl, rfl, trivial⟩ trivial (by first | exact trivial | exact ⟨trivial, trivial⟩) ?_ ?_) | (apply call0_ (g := 80); refine call_l12List [] (by omega) rfl ⟨⟨rfl, rfl, fun _ _ => rfl⟩, rfl, trivial⟩ trivial (by first | exact trivial | exact ⟨trivial, trivial⟩) ?_ ?_))
    all_goals (try simp only [Int.toNat_natCast] at *)
    all_goals first | omega | skip
    all_goals first
    | ((apply to_ []; apply toAt_ [.all 0, .all 1] (i+1); rotate_left 1; exact ⟨rfl, rfl, rfl, rfl, ⟨rfl, rfl, rfl, trivial⟩, ⟨trivial, rfl, ⟨rfl, rfl, fun _ _ => rfl⟩, ⟨rfl, rfl, fun _ _ => rfl⟩, trivial⟩, ⟨trivial, rfl, ⟨rfl, rfl, fun _ _ => rfl⟩, ⟨rfl, rfl, fun _ _ => rfl⟩, rfl, ⟨rfl, rfl, fun _ _ => rfl⟩, trivial⟩, trivial⟩)
       refine ⟨⟨by omega, upTo_succ h2 ?_⟩, by omega⟩
       unfold entryOk
       simp only [actsOf]
       rw [decide_eq_true (by omega), show listOk (s.log.getD i default).reads s.cells.length = true by assumption, show listOk (s.log.getD i default).puts s.cells.length = true by assumption, decide_eq_true (by omega)]
       rfl)
    | ((apply ret_ []; apply retAt0 (r := bl _); exact rfl; refine ⟨rfl, congrArg bl ?_⟩)
       have e : entryOk p s i = false := by
         unfold entryOk
         simp only [actsOf]
         first
         | (rw [decide_eq_false (by omega), Bool.false_and]; done)
         | (rw [show listOk (s.log.getD i default).reads s.cells.length = false by assumption]; simp only [Bool.false_and, Bool.and_false]; done)
         | (rw [show listOk (s.log.getD i default).puts s.cells.length = false by assumption]; simp only [Bool.false_and, Bool.and_false]; done)
         | (rw [decide_eq_true (by omega), decide_eq_false (by omega)]; simp only [Bool.and_false]; done)
       unfold logOk
       rw [allTo_not (j := i) (by omega) e]
       done)
    | ((apply ret_ []; apply retAt0 (r := bl _); exact rfl; refine ⟨rfl, congrArg bl ?_⟩)
       unfold logOk
       rw [allTo_of (fun j hj => h2 j (by omega))])
theorem callx_l12Log {al0 : Lim} {s0 : St} {as0 : List Operand} {d0 : Option Tmp} {K0 : St → Prop} {p : DProg} {s : DSys} (ρ : List Sel) (cok_ : CallOK prog 59 [.a (eProg p), .a (eSys s)] [] (fun r os => os = [] ∧ r = bl (logOk p s))) (cn_ : nodupB (keysOf ρ) = true) (ca_ : tvsLe ρ s0.loc.length (as0.map (ev s0)) [.a (eProg p), .a (eSys s)]) (co_ : locLe ρ s0.loc.length s0.loc s0.fz ρ []) (cl_ : limP al0 s0.loc ρ True) (cT_ : (logOk p s) = true → placesK s0.loc ρ ([].map (AObj.up ρ s0.loc.length)) fun loc' => s0.afterK loc' d0 ((bl true : TV).up ρ s0.loc.length) K0) (cF_ : (logOk p s) = false → placesK s0.loc ρ ([].map (AObj.up ρ s0.loc.length)) fun loc' => s0.afterK loc' d0 ((bl false : TV).up ρ s0.loc.length) K0) : CallAt prog al0 s0 59 as0 d0 K0 :=
  callB ρ cok_ cn_ ca_ co_ cl_ (by rintro r os ⟨rfl, rfl⟩; cases hb : (logOk p s) with | true => exact cT_  hb  | false => exact cF_  hb )
theorem call_l12Log {al0 : Lim} {s0 : St} {as0 : List Operand} {d0 : Option Tmp} {K0 : St → Prop} {p : DProg} {s : DSys} (ρ : List Sel) (hl : s.tasks.length ≤ 7) (hc : s.cells.length ≤ 3) (hb : ∀ k, k < s.tasks.length → 0 ≤ (s.tasks.getD k default).body ∧ (s.tasks.getD k default).body ≤ p.bodies.length - 1) (cn_ : nodupB (keysOf ρ) = true) (ca_ : tvsLe ρ s0.loc.length (as0.map (ev s0)) [.a (eProg p), .a (eSys s)]) (co_ : locLe ρ s0.loc.length s0.loc s0.fz ρ []) (cl_ : limP al0 s0.loc ρ True) (cT_ : (logOk p s) = true → placesK s0.loc ρ ([].map (AObj.up ρ s0.loc.length)) fun loc' => s0.afterK loc' d0 ((bl true : TV).up ρ s0.loc.length) K0) (cF_ : (logOk p s) = false → placesK s0.loc ρ ([].map (AObj.up ρ s0.loc.length)) fun loc' => s0.afterK loc' d0 ((bl false : TV).up ρ s0.loc.length) K0) : CallAt prog al0 s0 59 as0 d0 K0 :=
  callx_l12Log ρ (l12Log_ok p s hl hc hb) cn_ ca_ co_ cl_ cT_ cF_
end Go.Proofs.AYT
namespace Go.Proofs.AYT
open Go Go.Proofs.AY Go.Proofs.Try
theorem SysOk_ok (p : DProg) (s : DSys) : CallOK prog 28 [.a (eProg p), .a (eSys s)] [] (fun r os => os = [] ∧ r = bl (sysOk p s)) := by
  refine fn_ (D := []) [] tab_ok hmo func28 rfl rfl rfl rfl ?_
  repeat' ((conv => whnf); first | (refine And.intro ?_ ?_) | (intro _) | (apply call0_ (g := 55); refine call_ProgOk []  rfl ⟨⟨⟨rfl, rfl, fun _ _ => rfl⟩, ⟨rfl, rfl, fun _ _ => rfl⟩, trivial⟩, trivial⟩ trivial (by first | exact trivial | exact ⟨trivial, trivial⟩) ?_ ?_) | (apply call0_ (g := 56); refine call_l6In []  rfl ⟨rfl, rfl, rfl, trivial⟩ trivial (by first | exact trivial | exact ⟨trivial, trivial⟩) ?_ ?_))
  all_goals first
  | omega
  | ((apply ret_ []; apply retAt0 (r := bl _); exact rfl; refine ⟨rfl, congrArg bl ?_⟩)
     unfold sysOk
     first
     | (rw [show progOk p = false by assumption]; rfl)
     | (rw [show progOk p = true by assumption, decide_eq_false (by omega)]; rfl))
  | skip
  · have hp : progOk p = true := by assumption
    have hl := formOk_len (p := p) (by unfold progOk at hp; rw [Bool.and_eq_true] at hp; exact hp.1)
    apply loop_ (fun i : Nat => i ≤ s.tasks.length ∧ upTo (fun j => taskOk p s j (s.tasks.getD j default)) i) (fun i : Nat => (⟨50, [(2, ptr 0), (3, ptr 1), (5, int i)], [.box 44 (eProg p), .box 27 (eSys s)], []⟩ : St)) (fun i : Nat => s.tasks.length - i)
    · (apply to_ []; apply toAt_ [.all 0, .all 1] 0; rotate_left 1; exact ⟨rfl, rfl, rfl, rfl, ⟨rfl, rfl, rfl, trivial⟩, ⟨trivial, rfl, ⟨rfl, rfl, fun _ _ => rfl⟩, ⟨rfl, rfl, fun _ _ => rfl⟩, trivial⟩, ⟨trivial, rfl, ⟨rfl, rfl, fun _ _ => rfl⟩, ⟨rfl, rfl, fun _ _ => rfl⟩, rfl, ⟨rfl, rfl, fun _ _ => rfl⟩, trivial⟩, trivial⟩)
      exact ⟨Nat.zero_le _, upTo_zero _⟩
    · rintro i ⟨h1, h2⟩
      have hb : i = s.tasks.length → ∀ k, k < s.tasks.length → 0 ≤ (s.tasks.getD k default).body ∧ (s.tasks.getD k default).body ≤ p.bodies.length - 1 := fun e k hk => (taskOk_p1 (h2 k (by omega))).1
      unfold sysOk
      rw [hp, decide_eq_true (by omega), Bool.true_and, Bool.true_and]
      repeat' ((conv => whnf); first | (refine And.intro ?_ ?_) | (intro _) | (apply call0_ (g := 57); refine call_l12Task [] (by omega) (by omega) (by omega) (by omega) rfl ⟨⟨⟨rfl, rfl, fun _ _ => rfl⟩, ⟨rfl, rfl, fun _ _ => rfl⟩, trivial⟩, ⟨⟨rfl, rfl, fun _ _ => rfl⟩, ⟨rfl, rfl, fun _ _ => rfl⟩, rfl, ⟨rfl, rfl, fun _ _ => rfl⟩, trivial⟩, rfl, trivial⟩ trivial (by first | exact trivial | exact ⟨trivial, trivial⟩) ?_ ?_) | (apply call0_ (g := 58); refine call_l12Cells [] (by omega) rfl ⟨⟨⟨rfl, rfl, fun _ _ => rfl⟩, ⟨rfl, rfl, fun _ _ => rfl⟩, rfl, ⟨rfl, rfl, fun _ _ => rfl⟩, trivial⟩, trivial⟩ trivial (by first | exact trivial | exact ⟨trivial, trivial⟩) ?_ ?_) | (apply call0_ (g := 59); refine call_l12Log [] (by omega) (by omega) (hb (by omega)) rfl ⟨⟨⟨rfl, rfl, fun _ _ => rfl⟩, ⟨rfl, rfl, fun _ _ => rfl⟩, trivial⟩, ⟨⟨rfl, rfl, fun _ _ => rfl⟩, ⟨rfl, rfl, fun _ _ => rfl⟩, rfl, ⟨rfl, rfl, fun _ _ => rfl⟩, trivial⟩, trivial⟩ trivial (by first | exact trivial | exact ⟨trivial, trivial⟩) ?_ ?_))
      all_goals (try simp only [Int.toNat_natCast] at *)
      all_goals first | omega | skip
      · (apply to_ []; apply toAt_ [.all 0, .all 1] (i+1); rotate_left 1; exact ⟨rfl, rfl, rfl, rfl, ⟨rfl, rfl, rfl, trivial⟩, ⟨trivial, rfl, ⟨rfl, rfl, fun _ _ => rfl⟩, ⟨rfl, rfl, fun _ _ => rfl⟩, trivial⟩, ⟨trivial, rfl, ⟨rfl, rfl, fun _ _ => rfl⟩, ⟨rfl, rfl, fun _ _ => rfl⟩, rfl, ⟨rfl, rfl, fun _ _ => rfl⟩, trivial⟩, trivial⟩)
        exact ⟨⟨by omega, upTo_succ h2 (by assumption)⟩, by omega⟩
      · (apply ret_ []; apply retAt0 (r := bl _); exact rfl; refine ⟨rfl, congrArg bl ?_⟩)
        rw [allTo_not (j := i) (by omega) (by assumption), Bool.false_and]
      all_goals (apply ret_ []; apply retAt0 (r := bl _); exact rfl; refine ⟨rfl, congrArg bl ?_⟩)
      all_goals rw [allTo_of (fun j hj => h2 j (by omega)), Bool.true_and]
      · rw [show cellsOk s = true by assumption, show logOk p s = true by assumption]; rfl
      · rw [show cellsOk s = true by assumption, show logOk p s = false by assumption]; rfl
      · rw [show cellsOk s = false by assumption]; rfl
theorem callx_SysOk {al0 : Lim} {s0 : St} {as0 : List Operand} {d0 : Option Tmp} {K0 : St → Prop} {p : DProg} {s : DSys} (ρ : List Sel) (cok_ : CallOK prog 28 [.a (eProg p), .a (eSys s)] [] (fun r os => os = [] ∧ r = bl (sysOk p s))) (cn_ : nodupB (keysOf ρ) = true) (ca_ : tvsLe ρ s0.loc.length (as0.map (ev s0)) [.a (eProg p), .a (eSys s)]) (co_ : locLe ρ s0.loc.length s0.loc s0.fz ρ []) (cl_ : limP al0 s0.loc ρ True) (cT_ : (sysOk p s) = true → placesK s0.loc ρ ([].map (AObj.up ρ s0.loc.length)) fun loc' => s0.afterK loc' d0 ((bl true : TV).up ρ s0.loc.length) K0) (cF_ : (sysOk p s) = false → placesK s0.loc ρ ([].map (AObj.up ρ s0.loc.length)) fun loc' => s0.afterK loc' d0 ((bl false : TV).up ρ s0.loc.length) K0) : CallAt prog al0 s0 28 as0 d0 K0 :=
  callB ρ cok_ cn_ ca_ co_ cl_ (by rintro r os ⟨rfl, rfl⟩; cases hb : (sysOk p s) with | true => exact cT_  hb  | false => exact cF_  hb )
theorem call_SysOk {al0 : Lim} {s0 : St} {as0 : List Operand} {d0 : Option Tmp} {K0 : St → Prop} {p : DProg} {s : DSys} (ρ : List Sel) (cn_ : nodupB (keysOf ρ) = true) (ca_ : tvsLe ρ s0.loc.length (as0.map (ev s0)) [.a (eProg p), .a (eSys s)]) (co_ : locLe ρ s0.loc.length s0.loc s0.fz ρ []) (cl_ : limP al0 s0.loc ρ True) (cT_ : (sysOk p s) = true → placesK s0.loc ρ ([].map (AObj.up ρ s0.loc.length)) fun loc' => s0.afterK loc' d0 ((bl true : TV).up ρ s0.loc.length) K0) (cF_ : (sysOk p s) = false → placesK s0.loc ρ ([].map (AObj.up ρ s0.loc.length)) fun loc' => s0.afterK loc' d0 ((bl false : TV).up ρ s0.loc.length) K0) : CallAt prog al0 s0 28 as0 d0 K0 :=
  callx_SysOk ρ (SysOk_ok p s) cn_ ca_ co_ cl_ cT_ cF_
end Go.Proofs.AYT
