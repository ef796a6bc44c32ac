/- A symbolic executor over the model, plain words, and contracts of the program's functions, part 16. Conditions: as each theorem tells. -/
import Derived.Test.YteippbbcihgabaaAyB15
import Derived.Test.YteippbbcihgabaaAyB14
import Derived.Test.YteippbbcihgabaaAyB13
import Derived.Test.YteippbbcihgabaaAyB04
import Derived.Test.YteippbbcihgabaaAyB09
set_option linter.unusedVariables false
set_option linter.unusedSimpArgs false
set_option linter.unusedSectionVars false
namespace Go.Proofs.AYT
open Go Go.Proofs.AY Go.Proofs.Try
def plans76 : Plans := []
theorem plans76_ok : plansOk plans76 (bodyOf f76) = true := by kernel_rfl
set_option maxRecDepth 100000 in
theorem l11DoO_ok (p : DProg) (s : DSys) (nc nt nl : Nat) (t : Int) (hI : SysI p s) (hc : s.cells.length = nc) (hn : s.tasks.length = nt) (hl : s.log.length = nl) (hk : nt ≤ 1000000) (hle : nl ≤ 100000000) (he : ∀ x ∈ s.log, smallE x) : CallOK prog 76 [.a (eProg p), .a [.s ⟨0, 0⟩ nc, .s ⟨1, 0⟩ nt, iv s.clock, .s ⟨2, 0⟩ nl], int t] [wC s nc, wT s nt 3, wL s nl, wR s nt] (fun r os => os = [.dead, .dead, .dead, .dead, wC (doS p s t) nc, wT (doS p s t) (doS p s t).tasks.length 7, wL (doS p s t) (doS p s t).log.length, wR (doS p s t) (doS p s t).tasks.length] ∧ r = .t [.a [.s ⟨4, 0⟩ nc, .s ⟨5, 0⟩ (doS p s t).tasks.length, iv (doS p s t).clock, .s ⟨6, 0⟩ (doS p s t).log.length], .c (.v (.bool (doB s t)))]) := by
  have hsm := hI.small
  have hf : ∀ k, k < nt → (tk s k).old.length = 3 ∧ (tk s k).reads.length ≤ 1000000 ∧ (tk s k).puts.length ≤ 1000000 := fun k hk => by
    have := hI.fit (t := k) (by omega)
    exact ⟨this.ho, this.hrd, this.hpt⟩
  have hnc : nc ≤ 1000000000 := by have := hI.hc; omega
  have hb : s.log.length + 4 * nt ≤ 1000000000 + pcs s.tasks := by omega
  by_cases hin : 0 ≤ t ∧ t ≤ (nt : Int) - 1
  · obtain ⟨n, rfl⟩ : ∃ n : Nat, t = n := ⟨t.toNat, by omega⟩
    have hnt : n < nt := by omega
    by_cases hr : readyB s n = true
    · have hd : doB s n = true := by
        unfold doB
        rw [Bool.and_eq_true, decide_eq_true_eq, Int.toNat_natCast]
        exact ⟨by omega, hr⟩
      have hS : doS p s n = stepS p s n := by unfold doS; rw [if_pos hd]; rfl
      rw [hd, hS]
      refine fn_ (D := []) [] tab_ok hmo func76 rfl rfl rfl rfl ?_
      repeat' ((conv => whnf); first | (refine And.intro ?_ ?_) | (intro _) | (apply call0_ (g := 56); refine call_l6In []  rfl ⟨rfl, rfl, rfl, trivial⟩ trivial (by first | exact trivial | exact ⟨trivial, trivial⟩) ?_ ?_) | (apply call0_ (g := 94); refine call_readyO [.all 7, .all 0, .all 1, .all 2, .all 3] (nl := nl) hn hnt (by omega) rfl ⟨rfl, rfl, trivial⟩ ⟨⟨trivial, rfl, ⟨rfl, rfl, fun _ _ => rfl⟩, ⟨rfl, rfl, fun _ _ => rfl⟩, rfl, rfl, rfl, rfl, trivial⟩, ⟨trivial, rfl, rfl, rfl, fun _ _ => ⟨rfl, rfl, rfl, trivial⟩⟩, ⟨trivial, rfl, rfl, rfl, fun _ _ => ⟨rfl, rfl, rfl, rfl, rfl, rfl, rfl, rfl, ⟨rfl, rfl, fun _ _ => rfl⟩, ⟨rfl, rfl, fun _ _ => rfl⟩, ⟨rfl, rfl, fun _ _ => rfl⟩, rfl, rfl, trivial⟩⟩, ⟨trivial, rfl, rfl, rfl, fun _ _ => ⟨rfl, rfl, rfl, ⟨rfl, rfl, fun _ _ => rfl⟩, ⟨rfl, rfl, fun _ _ => rfl⟩, rfl, trivial⟩⟩, ⟨trivial, fun _ hi => ⟨hi, rfl, rfl, rfl, fun _ _ => ⟨rfl, trivial⟩⟩⟩, trivial⟩ (by first | exact trivial | exact ⟨⟨rfl, Nat.le_refl _, trivial⟩, trivial⟩ | exact ⟨⟨rfl, trivial, ⟨rfl, trivial, ⟨rfl, trivial, ⟨rfl, trivial, ⟨rfl, trivial, trivial⟩⟩⟩⟩⟩, trivial⟩ | exact ⟨⟨rfl, trivial, ⟨rfl, trivial, ⟨rfl, trivial, ⟨rfl, trivial, ⟨rfl, Nat.le_refl _, trivial⟩⟩⟩⟩⟩, trivial⟩) ?_ ?_) | (apply call0_ (g := 75); refine call_l11CopyO [.all 0, .all 1, .all 2, .all 3] hnc (by omega) (by omega) hl hf he rfl ⟨⟨rfl, rfl, rfl, rfl, trivial⟩, trivial⟩ ⟨⟨trivial, rfl, rfl, rfl, fun _ _ => ⟨rfl, rfl, rfl, trivial⟩⟩, ⟨trivial, rfl, rfl, rfl, fun _ _ => ⟨rfl, rfl, rfl, rfl, rfl, rfl, rfl, rfl, ⟨rfl, rfl, fun _ _ => rfl⟩, ⟨rfl, rfl, fun _ _ => rfl⟩, ⟨rfl, rfl, fun _ _ => rfl⟩, rfl, rfl, trivial⟩⟩, ⟨trivial, rfl, rfl, rfl, fun _ _ => ⟨rfl, rfl, rfl, ⟨rfl, rfl, fun _ _ => rfl⟩, ⟨rfl, rfl, fun _ _ => rfl⟩, rfl, trivial⟩⟩, ⟨trivial, fun _ hi => ⟨hi, rfl, rfl, rfl, fun _ _ => ⟨rfl, trivial⟩⟩⟩, trivial⟩ (by first | exact trivial | exact ⟨⟨rfl, Nat.le_refl _, trivial⟩, trivial⟩ | exact ⟨⟨rfl, trivial, ⟨rfl, trivial, ⟨rfl, trivial, ⟨rfl, trivial, trivial⟩⟩⟩⟩, trivial⟩ | exact ⟨⟨rfl, trivial, ⟨rfl, trivial, ⟨rfl, trivial, ⟨rfl, Nat.le_refl _, trivial⟩⟩⟩⟩, trivial⟩) ?_) | (apply call0_ (g := 95); refine call_step [.all 7, .all 8, .all 9, .all 10, .all 11] hI hc hn hl hnt hb (readyB_clock hr) (by omega) rfl ⟨rfl, rfl, trivial⟩ ⟨⟨trivial, rfl, ⟨rfl, rfl, fun _ _ => rfl⟩, ⟨rfl, rfl, fun _ _ => rfl⟩, rfl, rfl, rfl, rfl, trivial⟩, ⟨trivial, rfl, rfl, rfl, fun _ _ => ⟨rfl, rfl, rfl, trivial⟩⟩, ⟨trivial, rfl, rfl, rfl, fun _ _ => ⟨rfl, rfl, rfl, rfl, rfl, rfl, rfl, rfl, ⟨rfl, rfl, fun _ _ => rfl⟩, ⟨rfl, rfl, fun _ _ => rfl⟩, ⟨rfl, rfl, fun _ _ => rfl⟩, rfl, rfl, trivial⟩⟩, ⟨trivial, rfl, rfl, rfl, fun _ _ => ⟨rfl, rfl, rfl, ⟨rfl, rfl, fun _ _ => rfl⟩, ⟨rfl, rfl, fun _ _ => rfl⟩, rfl, trivial⟩⟩, ⟨trivial, fun _ hi => ⟨hi, rfl, rfl, rfl, fun _ _ => ⟨rfl, trivial⟩⟩⟩, trivial⟩ (by first | exact trivial | exact ⟨⟨rfl, Nat.le_refl _, trivial⟩, trivial⟩ | exact ⟨⟨rfl, trivial, ⟨rfl, trivial, ⟨rfl, trivial, ⟨rfl, trivial, ⟨rfl, trivial, trivial⟩⟩⟩⟩⟩, trivial⟩ | exact ⟨⟨rfl, trivial, ⟨rfl, trivial, ⟨rfl, trivial, ⟨rfl, trivial, ⟨rfl, Nat.le_refl _, trivial⟩⟩⟩⟩⟩, trivial⟩) ?_))
      all_goals (try simp only [Int.toNat_natCast] at *)
      all_goals first | omega | skip
      · conv => whnf
        apply ret_ []
        apply retAt_ [.gone 0, .gone 1, .gone 2, .gone 3, .all 12, .all 13, .all 14, .all 15] (.t [.a [.s ⟨4, 0⟩ nc, .s ⟨5, 0⟩ (stepS p s n).tasks.length, iv (stepS p s n).clock, .s ⟨6, 0⟩ (stepS p s n).log.length], .c (.v (.bool true))]) [.dead, .dead, .dead, .dead, wC (stepS p s n) nc, wT (stepS p s n) (stepS p s n).tasks.length 7, wL (stepS p s n) (stepS p s n).log.length, wR (stepS p s n) (stepS p s n).tasks.length] rfl rfl
        · exact ⟨⟨rfl, rfl, rfl, rfl, trivial⟩, rfl, trivial⟩
        · exact ⟨trivial, trivial, trivial, trivial, ⟨trivial, rfl, rfl, rfl, fun _ _ => ⟨rfl, rfl, rfl, trivial⟩⟩, ⟨trivial, rfl, rfl, rfl, fun _ _ => ⟨rfl, rfl, rfl, rfl, rfl, rfl, rfl, rfl, ⟨rfl, rfl, fun _ _ => rfl⟩, ⟨rfl, rfl, fun _ _ => rfl⟩, ⟨rfl, rfl, fun _ _ => rfl⟩, rfl, rfl, trivial⟩⟩, ⟨trivial, rfl, rfl, rfl, fun _ _ => ⟨rfl, rfl, rfl, ⟨rfl, rfl, fun _ _ => rfl⟩, ⟨rfl, rfl, fun _ _ => rfl⟩, rfl, trivial⟩⟩, ⟨trivial, fun _ hi => ⟨hi, rfl, rfl, rfl, fun _ _ => ⟨rfl, trivial⟩⟩⟩, trivial⟩
        · exact ⟨rfl, rfl⟩
      · exact absurd (show readyB s n = false by assumption) (by rw [hr]; decide)
    · have hr' : readyB s n = false := by simpa using hr
      have hd : doB s n = false := by
        unfold doB
        rw [Int.toNat_natCast, hr', Bool.and_false]
      have hS : doS p s n = s := by unfold doS; rw [hd]; rfl
      rw [hd, hS, hn, hl]
      refine fn_ (D := []) [] tab_ok hmo func76 rfl rfl rfl rfl ?_
      repeat' ((conv => whnf); first | (refine And.intro ?_ ?_) | (intro _) | (apply call0_ (g := 56); refine call_l6In []  rfl ⟨rfl, rfl, rfl, trivial⟩ trivial (by first | exact trivial | exact ⟨trivial, trivial⟩) ?_ ?_) | (apply call0_ (g := 94); refine call_readyO [.all 7, .all 0, .all 1, .all 2, .all 3] (nl := nl) hn hnt (by omega) rfl ⟨rfl, rfl, trivial⟩ ⟨⟨trivial, rfl, ⟨rfl, rfl, fun _ _ => rfl⟩, ⟨rfl, rfl, fun _ _ => rfl⟩, rfl, rfl, rfl, rfl, trivial⟩, ⟨trivial, rfl, rfl, rfl, fun _ _ => ⟨rfl, rfl, rfl, trivial⟩⟩, ⟨trivial, rfl, rfl, rfl, fun _ _ => ⟨rfl, rfl, rfl, rfl, rfl, rfl, rfl, rfl, ⟨rfl, rfl, fun _ _ => rfl⟩, ⟨rfl, rfl, fun _ _ => rfl⟩, ⟨rfl, rfl, fun _ _ => rfl⟩, rfl, rfl, trivial⟩⟩, ⟨trivial, rfl, rfl, rfl, fun _ _ => ⟨rfl, rfl, rfl, ⟨rfl, rfl, fun _ _ => rfl⟩, ⟨rfl, rfl, fun _ _ => rfl⟩, rfl, trivial⟩⟩, ⟨trivial, fun _ hi => ⟨hi, rfl, rfl, rfl, fun _ _ => ⟨rfl, trivial⟩⟩⟩, trivial⟩ (by first | exact trivial | exact ⟨⟨rfl, Nat.le_refl _, trivial⟩, trivial⟩ | exact ⟨⟨rfl, trivial, ⟨rfl, trivial, ⟨rfl, trivial, ⟨rfl, trivial, ⟨rfl, trivial, trivial⟩⟩⟩⟩⟩, trivial⟩ | exact ⟨⟨rfl, trivial, ⟨rfl, trivial, ⟨rfl, trivial, ⟨rfl, trivial, ⟨rfl, Nat.le_refl _, trivial⟩⟩⟩⟩⟩, trivial⟩) ?_ ?_))
      all_goals (try simp only [Int.toNat_natCast] at *)
      all_goals first | omega | skip
      · exact absurd (show readyB s n = true by assumption) hr
      · conv => whnf
        apply ret_ []
        apply retAt_ [.gone 0, .gone 1, .gone 2, .gone 3, .all 0, .all 1, .all 2, .all 3] (.t [.a [.s ⟨4, 0⟩ nc, .s ⟨5, 0⟩ nt, iv s.clock, .s ⟨6, 0⟩ nl], .c (.v (.bool false))]) [.dead, .dead, .dead, .dead, wC s nc, wT s nt 7, wL s nl, wR s nt] rfl rfl
        · exact ⟨⟨rfl, rfl, rfl, rfl, trivial⟩, rfl, trivial⟩
        · exact ⟨trivial, trivial, trivial, trivial, ⟨trivial, rfl, rfl, rfl, fun _ _ => ⟨rfl, rfl, rfl, trivial⟩⟩, ⟨trivial, rfl, rfl, rfl, fun _ _ => ⟨rfl, rfl, rfl, rfl, rfl, rfl, rfl, rfl, ⟨rfl, rfl, fun _ _ => rfl⟩, ⟨rfl, rfl, fun _ _ => rfl⟩, ⟨rfl, rfl, fun _ _ => rfl⟩, rfl, rfl, trivial⟩⟩, ⟨trivial, rfl, rfl, rfl, fun _ _ => ⟨rfl, rfl, rfl, ⟨rfl, rfl, fun _ _ => rfl⟩, ⟨rfl, rfl, fun _ _ => rfl⟩, rfl, trivial⟩⟩, ⟨trivial, fun _ hi => ⟨hi, rfl, rfl, rfl, fun _ _ => ⟨rfl, trivial⟩⟩⟩, trivial⟩
        · exact ⟨rfl, rfl⟩
  · have hd : doB s t = false := by
      unfold doB
      rw [decide_eq_false (by omega), Bool.false_and]
    have hS : doS p s t = s := by unfold doS; rw [hd]; rfl
    rw [hd, hS, hn, hl]
    refine fn_ (D := []) [] tab_ok hmo func76 rfl rfl rfl rfl ?_
    repeat' ((conv => whnf); first | (refine And.intro ?_ ?_) | (intro _) | (apply call0_ (g := 56); refine call_l6In []  rfl ⟨rfl, rfl, rfl, trivial⟩ trivial (by first | exact trivial | exact ⟨trivial, trivial⟩) ?_ ?_))
    all_goals (try simp only [Int.toNat_natCast] at *)
    all_goals first | omega | skip
    · conv => whnf
      apply ret_ []
      apply retAt_ [.gone 0, .gone 1, .gone 2, .gone 3, .all 0, .all 1, .all 2, .all 3] (.t [.a [.s ⟨4, 0⟩ nc, .s ⟨5, 0⟩ nt, iv s.clock, .s ⟨6, 0⟩ nl], .c (.v (.bool false))]) [.dead, .dead, .dead, .dead, wC s nc, wT s nt 7, wL s nl, wR s nt] rfl rfl
      · exact ⟨⟨rfl, rfl, rfl, rfl, trivial⟩, rfl, trivial⟩
      · exact ⟨trivial, trivial, trivial, trivial, ⟨trivial, rfl, rfl, rfl, fun _ _ => ⟨rfl, rfl, rfl, trivial⟩⟩, ⟨trivial, rfl, rfl, rfl, fun _ _ => ⟨rfl, rfl, rfl, rfl, rfl, rfl, rfl, rfl, ⟨rfl, rfl, fun _ _ => rfl⟩, ⟨rfl, rfl, fun _ _ => rfl⟩, ⟨rfl, rfl, fun _ _ => rfl⟩, rfl, rfl, trivial⟩⟩, ⟨trivial, rfl, rfl, rfl, fun _ _ => ⟨rfl, rfl, rfl, ⟨rfl, rfl, fun _ _ => rfl⟩, ⟨rfl, rfl, fun _ _ => rfl⟩, rfl, trivial⟩⟩, ⟨trivial, fun _ hi => ⟨hi, rfl, rfl, rfl, fun _ _ => ⟨rfl, trivial⟩⟩⟩, trivial⟩
      · exact ⟨rfl, rfl⟩
theorem callx_l11DoO {al0 : Lim} {s0 : St} {as0 : List Operand} {d0 : Option Tmp} {K0 : St → Prop} {p : DProg} {s : DSys} {nc nt nl : Nat} {t : Int} (ρ : List Sel) (cok_ : CallOK prog 76 [.a (eProg p), .a [.s ⟨0, 0⟩ nc, .s ⟨1, 0⟩ nt, iv s.clock, .s ⟨2, 0⟩ nl], int t] [wC s nc, wT s nt 3, wL s nl, wR s nt] (fun r os => os = [.dead, .dead, .dead, .dead, wC (doS p s t) nc, wT (doS p s t) (doS p s t).tasks.length 7, wL (doS p s t) (doS p s t).log.length, wR (doS p s t) (doS p s t).tasks.length] ∧ r = .t [.a [.s ⟨4, 0⟩ nc, .s ⟨5, 0⟩ (doS p s t).tasks.length, iv (doS p s t).clock, .s ⟨6, 0⟩ (doS p s t).log.length], .c (.v (.bool (doB s t)))])) (cn_ : nodupB (keysOf ρ) = true) (ca_ : tvsLe ρ s0.loc.length (as0.map (ev s0)) [.a (eProg p), .a [.s ⟨0, 0⟩ nc, .s ⟨1, 0⟩ nt, iv s.clock, .s ⟨2, 0⟩ nl], int t]) (co_ : locLe ρ s0.loc.length s0.loc s0.fz ρ [wC s nc, wT s nt 3, wL s nl, wR s nt]) (cl_ : limP al0 s0.loc ρ True) (ck_ : placesK s0.loc ρ ([.dead, .dead, .dead, .dead, wC (doS p s t) nc, wT (doS p s t) (doS p s t).tasks.length 7, wL (doS p s t) (doS p s t).log.length, wR (doS p s t) (doS p s t).tasks.length].map (AObj.up ρ s0.loc.length)) fun loc' => s0.afterK loc' d0 ((.t [.a [.s ⟨4, 0⟩ nc, .s ⟨5, 0⟩ (doS p s t).tasks.length, iv (doS p s t).clock, .s ⟨6, 0⟩ (doS p s t).log.length], .c (.v (.bool (doB s t)))] : TV).up ρ s0.loc.length) K0) : CallAt prog al0 s0 76 as0 d0 K0 :=
  callB ρ cok_ cn_ ca_ co_ cl_ (by rintro r os ⟨rfl, rfl⟩; exact ck_ )
theorem call_l11DoO {al0 : Lim} {s0 : St} {as0 : List Operand} {d0 : Option Tmp} {K0 : St → Prop} {p : DProg} {s : DSys} {nc nt nl : Nat} {t : Int} (ρ : List Sel) (hI : SysI p s) (hc : s.cells.length = nc) (hn : s.tasks.length = nt) (hl : s.log.length = nl) (hk : nt ≤ 1000000) (hle : nl ≤ 100000000) (he : ∀ x ∈ s.log, smallE x) (cn_ : nodupB (keysOf ρ) = true) (ca_ : tvsLe ρ s0.loc.length (as0.map (ev s0)) [.a (eProg p), .a [.s ⟨0, 0⟩ nc, .s ⟨1, 0⟩ nt, iv s.clock, .s ⟨2, 0⟩ nl], int t]) (co_ : locLe ρ s0.loc.length s0.loc s0.fz ρ [wC s nc, wT s nt 3, wL s nl, wR s nt]) (cl_ : limP al0 s0.loc ρ True) (ck_ : placesK s0.loc ρ ([.dead, .dead, .dead, .dead, wC (doS p s t) nc, wT (doS p s t) (doS p s t).tasks.length 7, wL (doS p s t) (doS p s t).log.length, wR (doS p s t) (doS p s t).tasks.length].map (AObj.up ρ s0.loc.length)) fun loc' => s0.afterK loc' d0 ((.t [.a [.s ⟨4, 0⟩ nc, .s ⟨5, 0⟩ (doS p s t).tasks.length, iv (doS p s t).clock, .s ⟨6, 0⟩ (doS p s t).log.length], .c (.v (.bool (doB s t)))] : TV).up ρ s0.loc.length) K0) : CallAt prog al0 s0 76 as0 d0 K0 :=
  callx_l11DoO ρ (l11DoO_ok p s nc nt nl t hI hc hn hl hk hle he) cn_ ca_ co_ cl_ ck_
end Go.Proofs.AYT
namespace Go.Proofs.AYT
open Go Go.Proofs.AY Go.Proofs.Try
def plans54 : Plans := [(7, ⟨.take 2 false (.take 3 false (.take 4 false (.take 0 true (.take 1 true (.take 5 true (.alt 6 (.take 7 false (.take 8 false (.take 9 false (.alt 10 .done .done)))) .done)))))), [10], [3, 4, 5, 6]⟩)]
theorem plans54_ok : plansOk plans54 (bodyOf f54) = true := by kernel_rfl
set_option maxRecDepth 100000 in
theorem SysRun_ok (p : DProg) (s : DSys) (ts : List Int) (hl : s.log.length ≤ 1000000) (he : ∀ x ∈ s.log, smallE x) : CallOK prog 54 [.a (eProg p), .a (eSys s), lst 1 eI ts] [] (fun r os => os = [wC (runR p s ts) (runR p s ts).cells.length, wT (runR p s ts) (runR p s ts).tasks.length 3, wL (runR p s ts) (runR p s ts).log.length, wR (runR p s ts) (runR p s ts).tasks.length] ∧ r = .t [.a [.s ⟨0, 0⟩ (runR p s ts).cells.length, .s ⟨1, 0⟩ (runR p s ts).tasks.length, iv (runR p s ts).clock, .s ⟨2, 0⟩ (runR p s ts).log.length], .c (.v (.bool (runOk p s ts)))]) := by
  by_cases hok : runOk p s ts = true
  · have hR : runR p s ts = runS p s ts := if_pos hok
    have hk : sysOk p s = true ∧ (ts.length : Int) ≤ 300 := by
      unfold runOk at hok
      rw [Bool.and_eq_true, decide_eq_true_eq] at hok
      exact hok
    obtain ⟨hI, hn1, hn7⟩ := SysI.of_ok hk.1
    have hsm := hI.small
    have hf : ∀ k, k < s.tasks.length → (tk s k).regs.length = 3 ∧ (tk s k).old.length = 3 ∧ (tk s k).reads.length ≤ 1000000 ∧ (tk s k).puts.length ≤ 1000000 := fun k hk => by
      have := hI.fit hk
      exact ⟨this.hr, this.ho, this.hrd, this.hpt⟩
    have hnc : s.cells.length ≤ 1000000000 := by have := hI.hc; omega
    have hrun := fun i => RunI.take hI hn7 ts i
    rw [hok, hR]
    refine fn_ [] tab_ok hmo func54 rfl rfl plans54_ok rfl ?_
    repeat' ((conv => whnf); first | (refine And.intro ?_ ?_) | (intro _) | (apply call0_ (g := 28); refine call_SysOk []  rfl ⟨⟨⟨rfl, rfl, fun _ _ => rfl⟩, ⟨rfl, rfl, fun _ _ => rfl⟩, trivial⟩, ⟨⟨rfl, rfl, fun _ _ => rfl⟩, ⟨rfl, rfl, fun _ _ => rfl⟩, rfl, ⟨rfl, rfl, fun _ _ => rfl⟩, trivial⟩, trivial⟩ trivial (by first | exact trivial | exact ⟨trivial, trivial⟩) ?_ ?_) | (apply call0_ (g := 75); refine call_l11Copy [] hnc (by omega) (by omega) hf he rfl ⟨⟨⟨rfl, rfl, fun _ _ => rfl⟩, ⟨rfl, rfl, fun _ _ => rfl⟩, rfl, ⟨rfl, rfl, fun _ _ => rfl⟩, trivial⟩, trivial⟩ trivial (by first | exact trivial | exact ⟨trivial, trivial⟩) ?_))
    all_goals (try simp only [Int.toNat_natCast] at *)
    all_goals first | omega | skip
    · conv => whnf
      apply loop_ (fun ((i, S) : (Nat) × (DSys)) => i ≤ ts.length ∧ S = runS p s (ts.take i)) (fun ((i, S) : (Nat) × (DSys)) => (⟨38, [(2, lst 1 eI ts), (3, ptr 0), (4, ptr 1), (6, ptr 2), (8, int i)], [.box 44 (eProg p), .box 27 [.s ⟨3, 0⟩ S.cells.length, .s ⟨4, 0⟩ S.tasks.length, iv S.clock, .s ⟨5, 0⟩ S.log.length], .box 27 [.v (.slice none 0 0), .v (.slice none 0 0), iv 0, .v (.slice none 0 0)], wC S S.cells.length, wT S S.tasks.length 6, wL S S.log.length, wR S S.tasks.length], []⟩ : St)) (fun ((i, S) : (Nat) × (DSys)) => ts.length - i)
      · (apply to_ []; apply toAt_ [.all 0, .all 1, .all 2, .all 3, .all 4, .all 5, .all 6] (0, s); rotate_left 1; exact ⟨rfl, rfl, rfl, rfl, ⟨⟨rfl, rfl, fun _ _ => rfl⟩, rfl, rfl, rfl, rfl, trivial⟩, ⟨trivial, rfl, ⟨rfl, rfl, fun _ _ => rfl⟩, ⟨rfl, rfl, fun _ _ => rfl⟩, trivial⟩, ⟨trivial, rfl, rfl, rfl, rfl, rfl, trivial⟩, ⟨trivial, rfl, rfl, rfl, rfl, rfl, trivial⟩, ⟨trivial, rfl, rfl, rfl, fun _ _ => ⟨rfl, rfl, rfl, trivial⟩⟩, ⟨trivial, rfl, rfl, rfl, fun _ _ => ⟨rfl, rfl, rfl, rfl, rfl, rfl, rfl, rfl, ⟨rfl, rfl, fun _ _ => rfl⟩, ⟨rfl, rfl, fun _ _ => rfl⟩, ⟨rfl, rfl, fun _ _ => rfl⟩, rfl, rfl, trivial⟩⟩, ⟨trivial, rfl, rfl, rfl, fun _ _ => ⟨rfl, rfl, rfl, ⟨rfl, rfl, fun _ _ => rfl⟩, ⟨rfl, rfl, fun _ _ => rfl⟩, rfl, trivial⟩⟩, ⟨trivial, fun _ hi => ⟨hi, rfl, rfl, rfl, fun _ _ => ⟨rfl, trivial⟩⟩⟩, trivial⟩)
        exact ⟨Nat.zero_le _, rfl⟩
      · rintro ⟨i, S⟩ ⟨hi, hS⟩
        have hr1 := hrun i
        rw [← hS] at hr1
        have hti : (ts.take i).length = i := by rw [List.length_take]; omega
        rw [hti] at hr1
        have hl1 := hr1.log
        have hl2 := hr1.l
        have hsm1 := hr1.g.small he
        repeat' ((conv => whnf); first | (refine And.intro ?_ ?_) | (intro _) | (apply call0_ (g := 76); refine call_l11DoO [.all 3, .all 4, .all 5, .all 6] hr1.i rfl rfl rfl (by omega) (by omega) hsm1 rfl ⟨⟨⟨rfl, rfl, fun _ _ => rfl⟩, ⟨rfl, rfl, fun _ _ => rfl⟩, trivial⟩, ⟨rfl, rfl, rfl, rfl, trivial⟩, rfl, trivial⟩ ⟨⟨trivial, rfl, rfl, rfl, fun _ _ => ⟨rfl, rfl, rfl, trivial⟩⟩, ⟨trivial, rfl, rfl, rfl, fun _ _ => ⟨rfl, rfl, rfl, rfl, rfl, rfl, rfl, rfl, ⟨rfl, rfl, fun _ _ => rfl⟩, ⟨rfl, rfl, fun _ _ => rfl⟩, ⟨rfl, rfl, fun _ _ => rfl⟩, rfl, rfl, trivial⟩⟩, ⟨trivial, rfl, rfl, rfl, fun _ _ => ⟨rfl, rfl, rfl, ⟨rfl, rfl, fun _ _ => rfl⟩, ⟨rfl, rfl, fun _ _ => rfl⟩, rfl, trivial⟩⟩, ⟨trivial, fun _ hi => ⟨hi, rfl, rfl, rfl, fun _ _ => ⟨rfl, trivial⟩⟩⟩, trivial⟩ (by first | exact trivial | exact ⟨⟨rfl, Nat.le_refl _, trivial⟩, trivial⟩ | exact ⟨⟨rfl, trivial, ⟨rfl, trivial, ⟨rfl, trivial, ⟨rfl, trivial, trivial⟩⟩⟩⟩, trivial⟩ | exact ⟨⟨rfl, trivial, ⟨rfl, trivial, ⟨rfl, trivial, ⟨rfl, Nat.le_refl _, trivial⟩⟩⟩⟩, trivial⟩) ?_))
        all_goals (try simp only [Int.toNat_natCast] at *)
        all_goals first | omega | skip
        · conv => whnf
          have hcl : (doS p S (ts.getD i default)).cells.length = S.cells.length := hr1.i.cells (hr1.i.do_ _).1
          (apply to_ []; apply toAt_ [.all 0, .all 1, .all 2, .all 7, .all 8, .all 9, .all 10] (i + 1, doS p S (ts.getD i default)); rotate_left 1; exact ⟨rfl, rfl, rfl, rfl, ⟨⟨rfl, rfl, fun _ _ => rfl⟩, rfl, rfl, rfl, rfl, trivial⟩, ⟨trivial, rfl, ⟨rfl, rfl, fun _ _ => rfl⟩, ⟨rfl, rfl, fun _ _ => rfl⟩, trivial⟩, ⟨trivial, rfl, congrArg (CV.s _) hcl.symm, rfl, rfl, rfl, trivial⟩, ⟨trivial, rfl, rfl, rfl, rfl, rfl, trivial⟩, ⟨trivial, rfl, rfl, hcl.symm, fun _ _ => ⟨rfl, rfl, rfl, trivial⟩⟩, ⟨trivial, rfl, rfl, rfl, fun _ _ => ⟨rfl, rfl, rfl, rfl, rfl, rfl, rfl, rfl, ⟨rfl, rfl, fun _ _ => rfl⟩, ⟨rfl, rfl, fun _ _ => rfl⟩, ⟨rfl, rfl, fun _ _ => rfl⟩, rfl, rfl, trivial⟩⟩, ⟨trivial, rfl, rfl, rfl, fun _ _ => ⟨rfl, rfl, rfl, ⟨rfl, rfl, fun _ _ => rfl⟩, ⟨rfl, rfl, fun _ _ => rfl⟩, rfl, trivial⟩⟩, ⟨trivial, fun _ hi => ⟨hi, rfl, rfl, rfl, fun _ _ => ⟨rfl, trivial⟩⟩⟩, trivial⟩)
          refine ⟨⟨by omega, ?_⟩, by (try simp only); omega⟩
          rw [runS_snoc (by omega), ← hS]
        · conv => whnf
          have ei : i = ts.length := by omega
          rw [ei, List.take_length] at hS
          rw [← hS]
          apply ret_ []
          apply retAt_ [.all 3, .all 4, .all 5, .all 6] (.t [.a [.s ⟨0, 0⟩ S.cells.length, .s ⟨1, 0⟩ S.tasks.length, iv S.clock, .s ⟨2, 0⟩ S.log.length], .c (.v (.bool true))]) [wC S S.cells.length, wT S S.tasks.length 3, wL S S.log.length, wR S S.tasks.length] rfl rfl
          · exact ⟨⟨rfl, rfl, rfl, rfl, trivial⟩, rfl, trivial⟩
          · exact ⟨⟨trivial, rfl, rfl, rfl, fun _ _ => ⟨rfl, rfl, rfl, trivial⟩⟩, ⟨trivial, rfl, rfl, rfl, fun _ _ => ⟨rfl, rfl, rfl, rfl, rfl, rfl, rfl, rfl, ⟨rfl, rfl, fun _ _ => rfl⟩, ⟨rfl, rfl, fun _ _ => rfl⟩, ⟨rfl, rfl, fun _ _ => rfl⟩, rfl, rfl, trivial⟩⟩, ⟨trivial, rfl, rfl, rfl, fun _ _ => ⟨rfl, rfl, rfl, ⟨rfl, rfl, fun _ _ => rfl⟩, ⟨rfl, rfl, fun _ _ => rfl⟩, rfl, trivial⟩⟩, ⟨trivial, fun _ hi => ⟨hi, rfl, rfl, rfl, fun _ _ => ⟨rfl, trivial⟩⟩⟩, trivial⟩
          · exact ⟨rfl, rfl⟩
    · exact absurd (show sysOk p s = false by assumption) (by rw [hk.1]; decide)
  · have hok' : runOk p s ts = false := by simpa using hok
    have hR : runR p s ts = nilS := if_neg hok
    have hk : sysOk p s = true → ¬ (ts.length : Int) ≤ 300 := by
      intro h1 h2
      apply hok
      unfold runOk
      rw [h1, decide_eq_true h2]; rfl
    rw [hok', hR]
    refine fn_ [] tab_ok hmo func54 rfl rfl plans54_ok rfl ?_
    repeat' ((conv => whnf); first | (refine And.intro ?_ ?_) | (intro _) | (apply call0_ (g := 28); refine call_SysOk []  rfl ⟨⟨⟨rfl, rfl, fun _ _ => rfl⟩, ⟨rfl, rfl, fun _ _ => rfl⟩, trivial⟩, ⟨⟨rfl, rfl, fun _ _ => rfl⟩, ⟨rfl, rfl, fun _ _ => rfl⟩, rfl, ⟨rfl, rfl, fun _ _ => rfl⟩, trivial⟩, trivial⟩ trivial (by first | exact trivial | exact ⟨trivial, trivial⟩) ?_ ?_))
    all_goals (try simp only [Int.toNat_natCast] at *)
    all_goals first | omega | skip
    all_goals first | exact absurd (show sysOk p s = true by assumption) (fun h => by have := hk h; omega) | skip
    all_goals
      (try (conv => whnf))
      apply ret_ []
      apply retAt_ [.nil, .nil, .nil, .all 100] (.t [.a [.s ⟨0, 0⟩ 0, .s ⟨1, 0⟩ 0, iv 0, .s ⟨2, 0⟩ 0], .c (.v (.bool false))]) [wC nilS 0, wT nilS 0 3, wL nilS 0, wR nilS 0] rfl rfl
      · exact ⟨⟨⟨trivial, rfl⟩, ⟨trivial, rfl⟩, rfl, ⟨trivial, rfl⟩, trivial⟩, rfl, trivial⟩
      · exact ⟨rfl, rfl, rfl, ⟨trivial, fun _ h => absurd h (Nat.not_lt_zero _)⟩, trivial⟩
      · exact ⟨rfl, rfl⟩
theorem callx_SysRun {al0 : Lim} {s0 : St} {as0 : List Operand} {d0 : Option Tmp} {K0 : St → Prop} {p : DProg} {s : DSys} {ts : List Int} (ρ : List Sel) (cok_ : CallOK prog 54 [.a (eProg p), .a (eSys s), lst 1 eI ts] [] (fun r os => os = [wC (runR p s ts) (runR p s ts).cells.length, wT (runR p s ts) (runR p s ts).tasks.length 3, wL (runR p s ts) (runR p s ts).log.length, wR (runR p s ts) (runR p s ts).tasks.length] ∧ r = .t [.a [.s ⟨0, 0⟩ (runR p s ts).cells.length, .s ⟨1, 0⟩ (runR p s ts).tasks.length, iv (runR p s ts).clock, .s ⟨2, 0⟩ (runR p s ts).log.length], .c (.v (.bool (runOk p s ts)))])) (cn_ : nodupB (keysOf ρ) = true) (ca_ : tvsLe ρ s0.loc.length (as0.map (ev s0)) [.a (eProg p), .a (eSys s), lst 1 eI ts]) (co_ : locLe ρ s0.loc.length s0.loc s0.fz ρ []) (cl_ : limP al0 s0.loc ρ True) (ck_ : placesK s0.loc ρ ([wC (runR p s ts) (runR p s ts).cells.length, wT (runR p s ts) (runR p s ts).tasks.length 3, wL (runR p s ts) (runR p s ts).log.length, wR (runR p s ts) (runR p s ts).tasks.length].map (AObj.up ρ s0.loc.length)) fun loc' => s0.afterK loc' d0 ((.t [.a [.s ⟨0, 0⟩ (runR p s ts).cells.length, .s ⟨1, 0⟩ (runR p s ts).tasks.length, iv (runR p s ts).clock, .s ⟨2, 0⟩ (runR p s ts).log.length], .c (.v (.bool (runOk p s ts)))] : TV).up ρ s0.loc.length) K0) : CallAt prog al0 s0 54 as0 d0 K0 :=
  callB ρ cok_ cn_ ca_ co_ cl_ (by rintro r os ⟨rfl, rfl⟩; exact ck_ )
theorem call_SysRun {al0 : Lim} {s0 : St} {as0 : List Operand} {d0 : Option Tmp} {K0 : St → Prop} {p : DProg} {s : DSys} {ts : List Int} (ρ : List Sel) (hl : s.log.length ≤ 1000000) (he : ∀ x ∈ s.log, smallE x) (cn_ : nodupB (keysOf ρ) = true) (ca_ : tvsLe ρ s0.loc.length (as0.map (ev s0)) [.a (eProg p), .a (eSys s), lst 1 eI ts]) (co_ : locLe ρ s0.loc.length s0.loc s0.fz ρ []) (cl_ : limP al0 s0.loc ρ True) (ck_ : placesK s0.loc ρ ([wC (runR p s ts) (runR p s ts).cells.length, wT (runR p s ts) (runR p s ts).tasks.length 3, wL (runR p s ts) (runR p s ts).log.length, wR (runR p s ts) (runR p s ts).tasks.length].map (AObj.up ρ s0.loc.length)) fun loc' => s0.afterK loc' d0 ((.t [.a [.s ⟨0, 0⟩ (runR p s ts).cells.length, .s ⟨1, 0⟩ (runR p s ts).tasks.length, iv (runR p s ts).clock, .s ⟨2, 0⟩ (runR p s ts).log.length], .c (.v (.bool (runOk p s ts)))] : TV).up ρ s0.loc.length) K0) : CallAt prog al0 s0 54 as0 d0 K0 :=
  callx_SysRun ρ (SysRun_ok p s ts hl he) cn_ ca_ co_ cl_ ck_
end Go.Proofs.AYT
namespace Go.Proofs.AYT
open Go Go.Proofs.AY Go.Proofs.Try
theorem l11DoT_ok (p : DProg) (s : DSys) (nc nt nl : Nat) (t : Int) (hI : SysI p s) (hc : s.cells.length = nc) (hn : s.tasks.length = nt) (hl : s.log.length = nl) (hk : nt ≤ 1000000) (hle : nl ≤ 100000000) (he : ∀ x ∈ s.log, smallE x) (hb : doB s t = true) : CallOK prog 76 [.a (eProg p), .a [.s ⟨0, 0⟩ nc, .s ⟨1, 0⟩ nt, iv s.clock, .s ⟨2, 0⟩ nl], int t] [wC s nc, wT s nt 3, wL s nl, wR s nt] (fun r os => os = [.dead, .dead, .dead, .dead, wC (doS p s t) nc, wT (doS p s t) (doS p s t).tasks.length 7, wL (doS p s t) (doS p s t).log.length, wR (doS p s t) (doS p s t).tasks.length] ∧ r = .t [.a [.s ⟨4, 0⟩ nc, .s ⟨5, 0⟩ (doS p s t).tasks.length, iv (doS p s t).clock, .s ⟨6, 0⟩ (doS p s t).log.length], .c (.v (.bool true))]) := by
  have h := l11DoO_ok p s nc nt nl t hI hc hn hl hk hle he
  rw [hb] at h; exact h
theorem callx_l11DoT {al0 : Lim} {s0 : St} {as0 : List Operand} {d0 : Option Tmp} {K0 : St → Prop} {p : DProg} {s : DSys} {nc nt nl : Nat} {t : Int} (ρ : List Sel) (cok_ : CallOK prog 76 [.a (eProg p), .a [.s ⟨0, 0⟩ nc, .s ⟨1, 0⟩ nt, iv s.clock, .s ⟨2, 0⟩ nl], int t] [wC s nc, wT s nt 3, wL s nl, wR s nt] (fun r os => os = [.dead, .dead, .dead, .dead, wC (doS p s t) nc, wT (doS p s t) (doS p s t).tasks.length 7, wL (doS p s t) (doS p s t).log.length, wR (doS p s t) (doS p s t).tasks.length] ∧ r = .t [.a [.s ⟨4, 0⟩ nc, .s ⟨5, 0⟩ (doS p s t).tasks.length, iv (doS p s t).clock, .s ⟨6, 0⟩ (doS p s t).log.length], .c (.v (.bool true))])) (cn_ : nodupB (keysOf ρ) = true) (ca_ : tvsLe ρ s0.loc.length (as0.map (ev s0)) [.a (eProg p), .a [.s ⟨0, 0⟩ nc, .s ⟨1, 0⟩ nt, iv s.clock, .s ⟨2, 0⟩ nl], int t]) (co_ : locLe ρ s0.loc.length s0.loc s0.fz ρ [wC s nc, wT s nt 3, wL s nl, wR s nt]) (cl_ : limP al0 s0.loc ρ True) (ck_ : placesK s0.loc ρ ([.dead, .dead, .dead, .dead, wC (doS p s t) nc, wT (doS p s t) (doS p s t).tasks.length 7, wL (doS p s t) (doS p s t).log.length, wR (doS p s t) (doS p s t).tasks.length].map (AObj.up ρ s0.loc.length)) fun loc' => s0.afterK loc' d0 ((.t [.a [.s ⟨4, 0⟩ nc, .s ⟨5, 0⟩ (doS p s t).tasks.length, iv (doS p s t).clock, .s ⟨6, 0⟩ (doS p s t).log.length], .c (.v (.bool true))] : TV).up ρ s0.loc.length) K0) : CallAt prog al0 s0 76 as0 d0 K0 :=
  callB ρ cok_ cn_ ca_ co_ cl_ (by rintro r os ⟨rfl, rfl⟩; exact ck_ )
theorem call_l11DoT {al0 : Lim} {s0 : St} {as0 : List Operand} {d0 : Option Tmp} {K0 : St → Prop} {p : DProg} {s : DSys} {nc nt nl : Nat} {t : Int} (ρ : List Sel) (hI : SysI p s) (hc : s.cells.length = nc) (hn : s.tasks.length = nt) (hl : s.log.length = nl) (hk : nt ≤ 1000000) (hle : nl ≤ 100000000) (he : ∀ x ∈ s.log, smallE x) (hb : doB s t = true) (cn_ : nodupB (keysOf ρ) = true) (ca_ : tvsLe ρ s0.loc.length (as0.map (ev s0)) [.a (eProg p), .a [.s ⟨0, 0⟩ nc, .s ⟨1, 0⟩ nt, iv s.clock, .s ⟨2, 0⟩ nl], int t]) (co_ : locLe ρ s0.loc.length s0.loc s0.fz ρ [wC s nc, wT s nt 3, wL s nl, wR s nt]) (cl_ : limP al0 s0.loc ρ True) (ck_ : placesK s0.loc ρ ([.dead, .dead, .dead, .dead, wC (doS p s t) nc, wT (doS p s t) (doS p s t).tasks.length 7, wL (doS p s t) (doS p s t).log.length, wR (doS p s t) (doS p s t).tasks.length].map (AObj.up ρ s0.loc.length)) fun loc' => s0.afterK loc' d0 ((.t [.a [.s ⟨4, 0⟩ nc, .s ⟨5, 0⟩ (doS p s t).tasks.length, iv (doS p s t).clock, .s ⟨6, 0⟩ (doS p s t).log.length], .c (.v (.bool true))] : TV).up ρ s0.loc.length) K0) : CallAt prog al0 s0 76 as0 d0 K0 :=
  callx_l11DoT ρ (l11DoT_ok p s nc nt nl t hI hc hn hl hk hle he hb) cn_ ca_ co_ cl_ ck_
theorem l11DoF_ok (p : DProg) (s : DSys) (nc nt nl : Nat) (t : Int) (hn : s.tasks.length = nt) (hk : nt ≤ 1000000) (hb : doB s t = false) : CallOK prog 76 [.a (eProg p), .a [.s ⟨0, 0⟩ nc, .s ⟨1, 0⟩ nt, iv s.clock, .s ⟨2, 0⟩ nl], int t] [wC s nc, wT s nt 3, wL s nl, wR s nt] (fun r os => os = [wC s nc, wT s nt 3, wL s nl, wR s nt] ∧ r = .t [.a [.s ⟨0, 0⟩ nc, .s ⟨1, 0⟩ nt, iv s.clock, .s ⟨2, 0⟩ nl], .c (.v (.bool false))]) := by
  by_cases hin : 0 ≤ t ∧ t ≤ (nt : Int) - 1
  · obtain ⟨n, rfl⟩ : ∃ n : Nat, t = n := ⟨t.toNat, by omega⟩
    have hnt : n < nt := by omega
    have hr : readyB s n = false := by
      unfold doB at hb
      rw [decide_eq_true (by omega), Bool.true_and, Int.toNat_natCast] at hb; exact hb
    refine fn_ (D := []) [] tab_ok hmo func76 rfl rfl rfl rfl ?_
    repeat' ((conv => whnf); first | (refine And.intro ?_ ?_) | (intro _) | (apply call0_ (g := 56); refine call_l6In []  rfl ⟨rfl, rfl, rfl, trivial⟩ trivial (by first | exact trivial | exact ⟨trivial, trivial⟩) ?_ ?_) | (apply call0_ (g := 94); refine call_readyO [.all 7, .all 0, .all 1, .all 2, .all 3] (nl := nl) hn hnt (by omega) rfl ⟨rfl, rfl, trivial⟩ ⟨⟨trivial, rfl, ⟨rfl, rfl, fun _ _ => rfl⟩, ⟨rfl, rfl, fun _ _ => rfl⟩, rfl, rfl, rfl, rfl, trivial⟩, ⟨trivial, rfl, rfl, rfl, fun _ _ => ⟨rfl, rfl, rfl, trivial⟩⟩, ⟨trivial, rfl, rfl, rfl, fun _ _ => ⟨rfl, rfl, rfl, rfl, rfl, rfl, rfl, rfl, ⟨rfl, rfl, fun _ _ => rfl⟩, ⟨rfl, rfl, fun _ _ => rfl⟩, ⟨rfl, rfl, fun _ _ => rfl⟩, rfl, rfl, trivial⟩⟩, ⟨trivial, rfl, rfl, rfl, fun _ _ => ⟨rfl, rfl, rfl, ⟨rfl, rfl, fun _ _ => rfl⟩, ⟨rfl, rfl, fun _ _ => rfl⟩, rfl, trivial⟩⟩, ⟨trivial, fun _ hi => ⟨hi, rfl, rfl, rfl, fun _ _ => ⟨rfl, trivial⟩⟩⟩, trivial⟩ (by first | exact trivial | exact ⟨⟨rfl, Nat.le_refl _, trivial⟩, trivial⟩ | exact ⟨⟨rfl, trivial, ⟨rfl, trivial, ⟨rfl, trivial, ⟨rfl, trivial, ⟨rfl, trivial, trivial⟩⟩⟩⟩⟩, trivial⟩ | exact ⟨⟨rfl, trivial, ⟨rfl, trivial, ⟨rfl, trivial, ⟨rfl, trivial, ⟨rfl, Nat.le_refl _, trivial⟩⟩⟩⟩⟩, trivial⟩) ?_ ?_))
    all_goals (try simp only [Int.toNat_natCast] at *)
    all_goals first | omega | skip
    · exact absurd (show readyB s n = true by assumption) (by rw [hr]; decide)
    · conv => whnf
      apply ret_ []
      apply retAt_ [.all 0, .all 1, .all 2, .all 3] (.t [.a [.s ⟨0, 0⟩ nc, .s ⟨1, 0⟩ nt, iv s.clock, .s ⟨2, 0⟩ nl], .c (.v (.bool false))]) [wC s nc, wT s nt 3, wL s nl, wR s nt] rfl rfl
      · exact ⟨⟨rfl, rfl, rfl, rfl, trivial⟩, rfl, trivial⟩
      · exact ⟨⟨trivial, rfl, rfl, rfl, fun _ _ => ⟨rfl, rfl, rfl, trivial⟩⟩, ⟨trivial, rfl, rfl, rfl, fun _ _ => ⟨rfl, rfl, rfl, rfl, rfl, rfl, rfl, rfl, ⟨rfl, rfl, fun _ _ => rfl⟩, ⟨rfl, rfl, fun _ _ => rfl⟩, ⟨rfl, rfl, fun _ _ => rfl⟩, rfl, rfl, trivial⟩⟩, ⟨trivial, rfl, rfl, rfl, fun _ _ => ⟨rfl, rfl, rfl, ⟨rfl, rfl, fun _ _ => rfl⟩, ⟨rfl, rfl, fun _ _ => rfl⟩, rfl, trivial⟩⟩, ⟨trivial, fun _ hi => ⟨hi, rfl, rfl, rfl, fun _ _ => ⟨rfl, trivial⟩⟩⟩, trivial⟩
      · exact ⟨rfl, rfl⟩
  · skip
    refine fn_ (D := []) [] tab_ok hmo func76 rfl rfl rfl rfl ?_
    repeat' ((conv => whnf); first | (refine And.intro ?_ ?_) | (intro _) | (apply call0_ (g := 56); refine call_l6In []  rfl ⟨rfl, rfl, rfl, trivial⟩ trivial (by first | exact trivial | exact ⟨trivial, trivial⟩) ?_ ?_))
    all_goals (try simp only [Int.toNat_natCast] at *)
    all_goals first | omega | skip
    · conv => whnf
      apply ret_ []
      apply retAt_ [.all 0, .all 1, .all 2, .all 3] (.t [.a [.s ⟨0, 0⟩ nc, .s ⟨1, 0⟩ nt, iv s.clock, .s ⟨2, 0⟩ nl], .c (.v (.bool false))]) [wC s nc, wT s nt 3, wL s nl, wR s nt] rfl rfl
      · exact ⟨⟨rfl, rfl, rfl, rfl, trivial⟩, rfl, trivial⟩
      · exact ⟨⟨trivial, rfl, rfl, rfl, fun _ _ => ⟨rfl, rfl, rfl, trivial⟩⟩, ⟨trivial, rfl, rfl, rfl, fun _ _ => ⟨rfl, rfl, rfl, rfl, rfl, rfl, rfl, rfl, ⟨rfl, rfl, fun _ _ => rfl⟩, ⟨rfl, rfl, fun _ _ => rfl⟩, ⟨rfl, rfl, fun _ _ => rfl⟩, rfl, rfl, trivial⟩⟩, ⟨trivial, rfl, rfl, rfl, fun _ _ => ⟨rfl, rfl, rfl, ⟨rfl, rfl, fun _ _ => rfl⟩, ⟨rfl, rfl, fun _ _ => rfl⟩, rfl, trivial⟩⟩, ⟨trivial, fun _ hi => ⟨hi, rfl, rfl, rfl, fun _ _ => ⟨rfl, trivial⟩⟩⟩, trivial⟩
      · exact ⟨rfl, rfl⟩
theorem callx_l11DoF {al0 : Lim} {s0 : St} {as0 : List Operand} {d0 : Option Tmp} {K0 : St → Prop} {p : DProg} {s : DSys} {nc nt nl : Nat} {t : Int} (ρ : List Sel) (cok_ : CallOK prog 76 [.a (eProg p), .a [.s ⟨0, 0⟩ nc, .s ⟨1, 0⟩ nt, iv s.clock, .s ⟨2, 0⟩ nl], int t] [wC s nc, wT s nt 3, wL s nl, wR s nt] (fun r os => os = [wC s nc, wT s nt 3, wL s nl, wR s nt] ∧ r = .t [.a [.s ⟨0, 0⟩ nc, .s ⟨1, 0⟩ nt, iv s.clock, .s ⟨2, 0⟩ nl], .c (.v (.bool false))])) (cn_ : nodupB (keysOf ρ) = true) (ca_ : tvsLe ρ s0.loc.length (as0.map (ev s0)) [.a (eProg p), .a [.s ⟨0, 0⟩ nc, .s ⟨1, 0⟩ nt, iv s.clock, .s ⟨2, 0⟩ nl], int t]) (co_ : locLe ρ s0.loc.length s0.loc s0.fz ρ [wC s nc, wT s nt 3, wL s nl, wR s nt]) (cl_ : limP al0 s0.loc ρ True) (ck_ : placesK s0.loc ρ ([wC s nc, wT s nt 3, wL s nl, wR s nt].map (AObj.up ρ s0.loc.length)) fun loc' => s0.afterK loc' d0 ((.t [.a [.s ⟨0, 0⟩ nc, .s ⟨1, 0⟩ nt, iv s.clock, .s ⟨2, 0⟩ nl], .c (.v (.bool false))] : TV).up ρ s0.loc.length) K0) : CallAt prog al0 s0 76 as0 d0 K0 :=
  callB ρ cok_ cn_ ca_ co_ cl_ (by rintro r os ⟨rfl, rfl⟩; exact ck_ )
theorem call_l11DoF {al0 : Lim} {s0 : St} {as0 : List Operand} {d0 : Option Tmp} {K0 : St → Prop} {p : DProg} {s : DSys} {nc nt nl : Nat} {t : Int} (ρ : List Sel) (hn : s.tasks.length = nt) (hk : nt ≤ 1000000) (hb : doB s t = false) (cn_ : nodupB (keysOf ρ) = true) (ca_ : tvsLe ρ s0.loc.length (as0.map (ev s0)) [.a (eProg p), .a [.s ⟨0, 0⟩ nc, .s ⟨1, 0⟩ nt, iv s.clock, .s ⟨2, 0⟩ nl], int t]) (co_ : locLe ρ s0.loc.length s0.loc s0.fz ρ [wC s nc, wT s nt 3, wL s nl, wR s nt]) (cl_ : limP al0 s0.loc ρ True) (ck_ : placesK s0.loc ρ ([wC s nc, wT s nt 3, wL s nl, wR s nt].map (AObj.up ρ s0.loc.length)) fun loc' => s0.afterK loc' d0 ((.t [.a [.s ⟨0, 0⟩ nc, .s ⟨1, 0⟩ nt, iv s.clock, .s ⟨2, 0⟩ nl], .c (.v (.bool false))] : TV).up ρ s0.loc.length) K0) : CallAt prog al0 s0 76 as0 d0 K0 :=
  callx_l11DoF ρ (l11DoF_ok p s nc nt nl t hn hk hb) cn_ ca_ co_ cl_ ck_
set_option maxRecDepth 100000 in
theorem SysRest_ok (p : DProg) (s : DSys) (most : Int) (hl : s.log.length ≤ 1000000) (he : ∀ x ∈ s.log, smallE x) : CallOK prog 85 [.a (eProg p), .a (eSys s), int most] [] (fun r os => ∃ (R : DSys) (b : Bool), os = [wC R R.cells.length, wT R R.tasks.length 3, wL R R.log.length, wR R R.tasks.length] ∧ r = .t [.a [.s ⟨0, 0⟩ R.cells.length, .s ⟨1, 0⟩ R.tasks.length, iv R.clock, .s ⟨2, 0⟩ R.log.length], .c (.v (.bool b))] ∧ (restP p s R b)) := by
  by_cases hok : sysOk p s = true ∧ 0 ≤ most ∧ most ≤ 2000
  · obtain ⟨hk, hm0, hm1⟩ := hok
    obtain ⟨hI, hn1, hn7⟩ := SysI.of_ok hk
    have hsm := hI.small
    have hf : ∀ k, k < s.tasks.length → (tk s k).regs.length = 3 ∧ (tk s k).old.length = 3 ∧ (tk s k).reads.length ≤ 1000000 ∧ (tk s k).puts.length ≤ 1000000 := fun k hk => by
      have := hI.fit hk
      exact ⟨this.hr, this.ho, this.hrd, this.hpt⟩
    have hnc : s.cells.length ≤ 1000000000 := by have := hI.hc; omega
    refine fn_ (D := []) [] tab_ok hmo func85 rfl rfl rfl rfl ?_
    repeat' ((conv => whnf); first | (refine And.intro ?_ ?_) | (intro _) | (apply call0_ (g := 28); refine call_SysOk []  rfl ⟨⟨⟨rfl, rfl, fun _ _ => rfl⟩, ⟨rfl, rfl, fun _ _ => rfl⟩, trivial⟩, ⟨⟨rfl, rfl, fun _ _ => rfl⟩, ⟨rfl, rfl, fun _ _ => rfl⟩, rfl, ⟨rfl, rfl, fun _ _ => rfl⟩, trivial⟩, trivial⟩ trivial (by first | exact trivial | exact ⟨trivial, trivial⟩) ?_ ?_) | (apply call0_ (g := 56); refine call_l6In []  rfl ⟨rfl, rfl, rfl, trivial⟩ trivial (by first | exact trivial | exact ⟨trivial, trivial⟩) ?_ ?_) | (apply call0_ (g := 75); refine call_l11Copy [] hnc (by omega) (by omega) hf he rfl ⟨⟨⟨rfl, rfl, fun _ _ => rfl⟩, ⟨rfl, rfl, fun _ _ => rfl⟩, rfl, ⟨rfl, rfl, fun _ _ => rfl⟩, trivial⟩, trivial⟩ trivial (by first | exact trivial | exact ⟨trivial, trivial⟩) ?_))
    all_goals (try simp only [Int.toNat_natCast] at *)
    all_goals first | omega | skip
    · conv => whnf
      apply loop_ (fun ((b, m, S) : (Bool) × (Int) × (DSys)) => 0 ≤ m ∧ m ≤ 2000 ∧ ∃ ts : List Int, S = runS p s ts ∧ (ts.length : Int) + m = most) (fun ((b, m, S) : (Bool) × (Int) × (DSys)) => (⟨52, [(2, int m), (3, ptr 0), (4, ptr 1), (6, ptr 2), (8, bl b)], [.box 44 (eProg p), .box 27 [.s ⟨3, 0⟩ S.cells.length, .s ⟨4, 0⟩ S.tasks.length, iv S.clock, .s ⟨5, 0⟩ S.log.length], .box 27 [.v (.slice none 0 0), .v (.slice none 0 0), iv 0, .v (.slice none 0 0)], wC S S.cells.length, wT S S.tasks.length 6, wL S S.log.length, wR S S.tasks.length], []⟩ : St)) (fun ((b, m, S) : (Bool) × (Int) × (DSys)) => (if b then m.toNat + 1 else 0))
      · (apply to_ []; apply toAt_ [.all 0, .all 1, .all 2, .all 3, .all 4, .all 5, .all 6] (true, most, s); rotate_left 1; exact ⟨rfl, rfl, rfl, rfl, ⟨rfl, rfl, rfl, rfl, rfl, trivial⟩, ⟨trivial, rfl, ⟨rfl, rfl, fun _ _ => rfl⟩, ⟨rfl, rfl, fun _ _ => rfl⟩, trivial⟩, ⟨trivial, rfl, rfl, rfl, rfl, rfl, trivial⟩, ⟨trivial, rfl, rfl, rfl, rfl, rfl, trivial⟩, ⟨trivial, rfl, rfl, rfl, fun _ _ => ⟨rfl, rfl, rfl, trivial⟩⟩, ⟨trivial, rfl, rfl, rfl, fun _ _ => ⟨rfl, rfl, rfl, rfl, rfl, rfl, rfl, rfl, ⟨rfl, rfl, fun _ _ => rfl⟩, ⟨rfl, rfl, fun _ _ => rfl⟩, ⟨rfl, rfl, fun _ _ => rfl⟩, rfl, rfl, trivial⟩⟩, ⟨trivial, rfl, rfl, rfl, fun _ _ => ⟨rfl, rfl, rfl, ⟨rfl, rfl, fun _ _ => rfl⟩, ⟨rfl, rfl, fun _ _ => rfl⟩, rfl, trivial⟩⟩, ⟨trivial, fun _ hi => ⟨hi, rfl, rfl, rfl, fun _ _ => ⟨rfl, trivial⟩⟩⟩, trivial⟩)
        exact ⟨hm0, hm1, [], rfl, by simp⟩
      · rintro ⟨b, m, S⟩ ⟨g0, g1, ts, hS, hts⟩
        cases b with
        | false =>
          repeat' ((conv => whnf); first | (refine And.intro ?_ ?_) | (intro _))
          conv => whnf
          apply ret_ []
          apply retAt_ [.all 3, .all 4, .all 5, .all 6] (.t [.a [.s ⟨0, 0⟩ S.cells.length, .s ⟨1, 0⟩ S.tasks.length, iv S.clock, .s ⟨2, 0⟩ S.log.length], .c (.v (.bool true))]) [wC S S.cells.length, wT S S.tasks.length 3, wL S S.log.length, wR S S.tasks.length] rfl rfl
          · exact ⟨⟨rfl, rfl, rfl, rfl, trivial⟩, rfl, trivial⟩
          · exact ⟨⟨trivial, rfl, rfl, rfl, fun _ _ => ⟨rfl, rfl, rfl, trivial⟩⟩, ⟨trivial, rfl, rfl, rfl, fun _ _ => ⟨rfl, rfl, rfl, rfl, rfl, rfl, rfl, rfl, ⟨rfl, rfl, fun _ _ => rfl⟩, ⟨rfl, rfl, fun _ _ => rfl⟩, ⟨rfl, rfl, fun _ _ => rfl⟩, rfl, rfl, trivial⟩⟩, ⟨trivial, rfl, rfl, rfl, fun _ _ => ⟨rfl, rfl, rfl, ⟨rfl, rfl, fun _ _ => rfl⟩, ⟨rfl, rfl, fun _ _ => rfl⟩, rfl, trivial⟩⟩, ⟨trivial, fun _ hi => ⟨hi, rfl, rfl, rfl, fun _ _ => ⟨rfl, trivial⟩⟩⟩, trivial⟩
          · exact ⟨S, true, rfl, rfl, .inl ⟨rfl, hk, ts, hS, by omega⟩⟩
        | true =>
          repeat' ((conv => whnf); first | (refine And.intro ?_ ?_) | (intro _))
          all_goals (try simp only [Int.toNat_natCast] at *)
          all_goals first | omega | skip
          · conv => whnf
            apply loop_ (fun ((i, b, k, T) : (Nat) × (Bool) × (Int) × (DSys)) => 0 ≤ k ∧ k ≤ m ∧ (b = false → k = m) ∧ (b = true → k < m) ∧ ∃ ts : List Int, T = runS p s ts ∧ (ts.length : Int) + k = most) (fun ((i, b, k, T) : (Nat) × (Bool) × (Int) × (DSys)) => (⟨52, [(2, int k), (3, ptr 0), (4, ptr 1), (6, ptr 2), (8, bl b), (9, int i)], [.box 44 (eProg p), .box 27 [.s ⟨3, 0⟩ T.cells.length, .s ⟨4, 0⟩ T.tasks.length, iv T.clock, .s ⟨5, 0⟩ T.log.length], .box 27 [.v (.slice none 0 0), .v (.slice none 0 0), iv 0, .v (.slice none 0 0)], wC T T.cells.length, wT T T.tasks.length 6, wL T T.log.length, wR T T.tasks.length], []⟩ : St)) (fun ((i, b, k, T) : (Nat) × (Bool) × (Int) × (DSys)) => k.toNat * 5000 + (T.tasks.length - i))
            · (apply to_ []; apply toAt_ [.all 0, .all 1, .all 2, .all 3, .all 4, .all 5, .all 6] (0, false, m, S); rotate_left 1; exact ⟨rfl, rfl, rfl, rfl, ⟨rfl, rfl, rfl, rfl, rfl, rfl, trivial⟩, ⟨trivial, rfl, ⟨rfl, rfl, fun _ _ => rfl⟩, ⟨rfl, rfl, fun _ _ => rfl⟩, trivial⟩, ⟨trivial, rfl, rfl, rfl, rfl, rfl, trivial⟩, ⟨trivial, rfl, rfl, rfl, rfl, rfl, trivial⟩, ⟨trivial, rfl, rfl, rfl, fun _ _ => ⟨rfl, rfl, rfl, trivial⟩⟩, ⟨trivial, rfl, rfl, rfl, fun _ _ => ⟨rfl, rfl, rfl, rfl, rfl, rfl, rfl, rfl, ⟨rfl, rfl, fun _ _ => rfl⟩, ⟨rfl, rfl, fun _ _ => rfl⟩, ⟨rfl, rfl, fun _ _ => rfl⟩, rfl, rfl, trivial⟩⟩, ⟨trivial, rfl, rfl, rfl, fun _ _ => ⟨rfl, rfl, rfl, ⟨rfl, rfl, fun _ _ => rfl⟩, ⟨rfl, rfl, fun _ _ => rfl⟩, rfl, trivial⟩⟩, ⟨trivial, fun _ hi => ⟨hi, rfl, rfl, rfl, fun _ _ => ⟨rfl, trivial⟩⟩⟩, trivial⟩)
              exact ⟨g0, Int.le_refl _, (fun _ => rfl), (fun e => by cases e), ts, hS, hts⟩
            · rintro ⟨i, b, k, T⟩ ⟨y0, y1, y2, y3, us, hT, hus⟩
              have hr1 := (RunI.zero hI hn7).run (ts := us)
              rw [← hT] at hr1
              have hl1 := hr1.log
              have hl2 := hr1.l
              have hsm1 := hr1.g.small he
              have hul : us.length ≤ 2000 := by omega
              cases hb : doB T i with
              | true =>
                have hr2 := hr1.do_ (i : Int)
                have hl3 := hr2.l
                have hcl : (doS p T i).cells.length = T.cells.length := hr1.i.cells hr2.i
                repeat' ((conv => whnf); first | (refine And.intro ?_ ?_) | (intro _) | (apply call0_ (g := 76); refine call_l11DoT [.all 3, .all 4, .all 5, .all 6] hr1.i rfl rfl rfl (by omega) (by omega) hsm1 hb rfl ⟨⟨⟨rfl, rfl, fun _ _ => rfl⟩, ⟨rfl, rfl, fun _ _ => rfl⟩, trivial⟩, ⟨rfl, rfl, rfl, rfl, trivial⟩, rfl, trivial⟩ ⟨⟨trivial, rfl, rfl, rfl, fun _ _ => ⟨rfl, rfl, rfl, trivial⟩⟩, ⟨trivial, rfl, rfl, rfl, fun _ _ => ⟨rfl, rfl, rfl, rfl, rfl, rfl, rfl, rfl, ⟨rfl, rfl, fun _ _ => rfl⟩, ⟨rfl, rfl, fun _ _ => rfl⟩, ⟨rfl, rfl, fun _ _ => rfl⟩, rfl, rfl, trivial⟩⟩, ⟨trivial, rfl, rfl, rfl, fun _ _ => ⟨rfl, rfl, rfl, ⟨rfl, rfl, fun _ _ => rfl⟩, ⟨rfl, rfl, fun _ _ => rfl⟩, rfl, trivial⟩⟩, ⟨trivial, fun _ hi => ⟨hi, rfl, rfl, rfl, fun _ _ => ⟨rfl, trivial⟩⟩⟩, trivial⟩ (by first | exact trivial | exact ⟨⟨rfl, Nat.le_refl _, trivial⟩, trivial⟩ | exact ⟨⟨rfl, trivial, ⟨rfl, trivial, ⟨rfl, trivial, ⟨rfl, trivial, trivial⟩⟩⟩⟩, trivial⟩ | exact ⟨⟨rfl, trivial, ⟨rfl, trivial, ⟨rfl, trivial, ⟨rfl, Nat.le_refl _, trivial⟩⟩⟩⟩, trivial⟩) ?_))
                all_goals (try simp only [Int.toNat_natCast] at *)
                all_goals first | omega | skip
                · conv => whnf
                  (apply to_ []; apply toAt_ [.all 0, .all 1, .all 2, .all 7, .all 8, .all 9, .all 10] (i + 1, true, k - 1, doS p T i); rotate_left 1; exact ⟨rfl, rfl, rfl, rfl, ⟨rfl, rfl, rfl, rfl, rfl, rfl, trivial⟩, ⟨trivial, rfl, ⟨rfl, rfl, fun _ _ => rfl⟩, ⟨rfl, rfl, fun _ _ => rfl⟩, trivial⟩, ⟨trivial, rfl, congrArg (CV.s _) hcl.symm, rfl, rfl, rfl, trivial⟩, ⟨trivial, rfl, rfl, rfl, rfl, rfl, trivial⟩, ⟨trivial, rfl, rfl, hcl.symm, fun _ _ => ⟨rfl, rfl, rfl, trivial⟩⟩, ⟨trivial, rfl, rfl, rfl, fun _ _ => ⟨rfl, rfl, rfl, rfl, rfl, rfl, rfl, rfl, ⟨rfl, rfl, fun _ _ => rfl⟩, ⟨rfl, rfl, fun _ _ => rfl⟩, ⟨rfl, rfl, fun _ _ => rfl⟩, rfl, rfl, trivial⟩⟩, ⟨trivial, rfl, rfl, rfl, fun _ _ => ⟨rfl, rfl, rfl, ⟨rfl, rfl, fun _ _ => rfl⟩, ⟨rfl, rfl, fun _ _ => rfl⟩, rfl, trivial⟩⟩, ⟨trivial, fun _ hi => ⟨hi, rfl, rfl, rfl, fun _ _ => ⟨rfl, trivial⟩⟩⟩, trivial⟩)
                  refine ⟨⟨by (try simp only); omega, by (try simp only); omega, (fun e => by cases e), (fun _ => by (try simp only); omega), us ++ [(i : Int)], by rw [runS_app1, ← hT], by rw [List.length_append]; simp only [List.length_cons, List.length_nil]; (try simp only); omega⟩, by (try simp only); omega⟩
                all_goals
                  conv => whnf
                  (apply to_ []; apply toAt_ [.all 0, .all 1, .all 2, .all 3, .all 4, .all 5, .all 6] (b, k, T); rotate_left 1; exact ⟨rfl, rfl, rfl, rfl, ⟨rfl, rfl, rfl, rfl, rfl, trivial⟩, ⟨trivial, rfl, ⟨rfl, rfl, fun _ _ => rfl⟩, ⟨rfl, rfl, fun _ _ => rfl⟩, trivial⟩, ⟨trivial, rfl, rfl, rfl, rfl, rfl, trivial⟩, ⟨trivial, rfl, rfl, rfl, rfl, rfl, trivial⟩, ⟨trivial, rfl, rfl, rfl, fun _ _ => ⟨rfl, rfl, rfl, trivial⟩⟩, ⟨trivial, rfl, rfl, rfl, fun _ _ => ⟨rfl, rfl, rfl, rfl, rfl, rfl, rfl, rfl, ⟨rfl, rfl, fun _ _ => rfl⟩, ⟨rfl, rfl, fun _ _ => rfl⟩, ⟨rfl, rfl, fun _ _ => rfl⟩, rfl, rfl, trivial⟩⟩, ⟨trivial, rfl, rfl, rfl, fun _ _ => ⟨rfl, rfl, rfl, ⟨rfl, rfl, fun _ _ => rfl⟩, ⟨rfl, rfl, fun _ _ => rfl⟩, rfl, trivial⟩⟩, ⟨trivial, fun _ hi => ⟨hi, rfl, rfl, rfl, fun _ _ => ⟨rfl, trivial⟩⟩⟩, trivial⟩)
                  refine ⟨⟨y0, by (try simp only); omega, us, hT, hus⟩, ?_⟩
                  cases b with
                  | true => have := y3 rfl; simp only [if_true]; omega
                  | false => simp
              | false =>
                repeat' ((conv => whnf); first | (refine And.intro ?_ ?_) | (intro _) | (apply call0_ (g := 76); refine call_l11DoF [.all 3, .all 4, .all 5, .all 6] rfl (by omega) hb rfl ⟨⟨⟨rfl, rfl, fun _ _ => rfl⟩, ⟨rfl, rfl, fun _ _ => rfl⟩, trivial⟩, ⟨rfl, rfl, rfl, rfl, trivial⟩, rfl, trivial⟩ ⟨⟨trivial, rfl, rfl, rfl, fun _ _ => ⟨rfl, rfl, rfl, trivial⟩⟩, ⟨trivial, rfl, rfl, rfl, fun _ _ => ⟨rfl, rfl, rfl, rfl, rfl, rfl, rfl, rfl, ⟨rfl, rfl, fun _ _ => rfl⟩, ⟨rfl, rfl, fun _ _ => rfl⟩, ⟨rfl, rfl, fun _ _ => rfl⟩, rfl, rfl, trivial⟩⟩, ⟨trivial, rfl, rfl, rfl, fun _ _ => ⟨rfl, rfl, rfl, ⟨rfl, rfl, fun _ _ => rfl⟩, ⟨rfl, rfl, fun _ _ => rfl⟩, rfl, trivial⟩⟩, ⟨trivial, fun _ hi => ⟨hi, rfl, rfl, rfl, fun _ _ => ⟨rfl, trivial⟩⟩⟩, trivial⟩ (by first | exact trivial | exact ⟨⟨rfl, Nat.le_refl _, trivial⟩, trivial⟩ | exact ⟨⟨rfl, trivial, ⟨rfl, trivial, ⟨rfl, trivial, ⟨rfl, trivial, trivial⟩⟩⟩⟩, trivial⟩ | exact ⟨⟨rfl, trivial, ⟨rfl, trivial, ⟨rfl, trivial, ⟨rfl, Nat.le_refl _, trivial⟩⟩⟩⟩, trivial⟩) ?_))
                all_goals (try simp only [Int.toNat_natCast] at *)
                all_goals first | omega | skip
                · conv => whnf
                  (apply to_ []; apply toAt_ [.all 0, .all 1, .all 2, .all 3, .all 4, .all 5, .all 6] (i + 1, b, k, T); rotate_left 1; exact ⟨rfl, rfl, rfl, rfl, ⟨rfl, rfl, rfl, rfl, rfl, rfl, trivial⟩, ⟨trivial, rfl, ⟨rfl, rfl, fun _ _ => rfl⟩, ⟨rfl, rfl, fun _ _ => rfl⟩, trivial⟩, ⟨trivial, rfl, rfl, rfl, rfl, rfl, trivial⟩, ⟨trivial, rfl, rfl, rfl, rfl, rfl, trivial⟩, ⟨trivial, rfl, rfl, rfl, fun _ _ => ⟨rfl, rfl, rfl, trivial⟩⟩, ⟨trivial, rfl, rfl, rfl, fun _ _ => ⟨rfl, rfl, rfl, rfl, rfl, rfl, rfl, rfl, ⟨rfl, rfl, fun _ _ => rfl⟩, ⟨rfl, rfl, fun _ _ => rfl⟩, ⟨rfl, rfl, fun _ _ => rfl⟩, rfl, rfl, trivial⟩⟩, ⟨trivial, rfl, rfl, rfl, fun _ _ => ⟨rfl, rfl, rfl, ⟨rfl, rfl, fun _ _ => rfl⟩, ⟨rfl, rfl, fun _ _ => rfl⟩, rfl, trivial⟩⟩, ⟨trivial, fun _ hi => ⟨hi, rfl, rfl, rfl, fun _ _ => ⟨rfl, trivial⟩⟩⟩, trivial⟩)
                  refine ⟨⟨y0, y1, y2, y3, us, hT, hus⟩, by (try simp only); omega⟩
                all_goals
                  conv => whnf
                  (apply to_ []; apply toAt_ [.all 0, .all 1, .all 2, .all 3, .all 4, .all 5, .all 6] (b, k, T); rotate_left 1; exact ⟨rfl, rfl, rfl, rfl, ⟨rfl, rfl, rfl, rfl, rfl, trivial⟩, ⟨trivial, rfl, ⟨rfl, rfl, fun _ _ => rfl⟩, ⟨rfl, rfl, fun _ _ => rfl⟩, trivial⟩, ⟨trivial, rfl, rfl, rfl, rfl, rfl, trivial⟩, ⟨trivial, rfl, rfl, rfl, rfl, rfl, trivial⟩, ⟨trivial, rfl, rfl, rfl, fun _ _ => ⟨rfl, rfl, rfl, trivial⟩⟩, ⟨trivial, rfl, rfl, rfl, fun _ _ => ⟨rfl, rfl, rfl, rfl, rfl, rfl, rfl, rfl, ⟨rfl, rfl, fun _ _ => rfl⟩, ⟨rfl, rfl, fun _ _ => rfl⟩, ⟨rfl, rfl, fun _ _ => rfl⟩, rfl, rfl, trivial⟩⟩, ⟨trivial, rfl, rfl, rfl, fun _ _ => ⟨rfl, rfl, rfl, ⟨rfl, rfl, fun _ _ => rfl⟩, ⟨rfl, rfl, fun _ _ => rfl⟩, rfl, trivial⟩⟩, ⟨trivial, fun _ hi => ⟨hi, rfl, rfl, rfl, fun _ _ => ⟨rfl, trivial⟩⟩⟩, trivial⟩)
                  refine ⟨⟨y0, by (try simp only); omega, us, hT, hus⟩, ?_⟩
                  cases b with
                  | true => have := y3 rfl; simp only [if_true]; omega
                  | false => simp
          · conv => whnf
            apply ret_ []
            apply retAt_ [.all 3, .all 4, .all 5, .all 6] (.t [.a [.s ⟨0, 0⟩ S.cells.length, .s ⟨1, 0⟩ S.tasks.length, iv S.clock, .s ⟨2, 0⟩ S.log.length], .c (.v (.bool true))]) [wC S S.cells.length, wT S S.tasks.length 3, wL S S.log.length, wR S S.tasks.length] rfl rfl
            · exact ⟨⟨rfl, rfl, rfl, rfl, trivial⟩, rfl, trivial⟩
            · exact ⟨⟨trivial, rfl, rfl, rfl, fun _ _ => ⟨rfl, rfl, rfl, trivial⟩⟩, ⟨trivial, rfl, rfl, rfl, fun _ _ => ⟨rfl, rfl, rfl, rfl, rfl, rfl, rfl, rfl, ⟨rfl, rfl, fun _ _ => rfl⟩, ⟨rfl, rfl, fun _ _ => rfl⟩, ⟨rfl, rfl, fun _ _ => rfl⟩, rfl, rfl, trivial⟩⟩, ⟨trivial, rfl, rfl, rfl, fun _ _ => ⟨rfl, rfl, rfl, ⟨rfl, rfl, fun _ _ => rfl⟩, ⟨rfl, rfl, fun _ _ => rfl⟩, rfl, trivial⟩⟩, ⟨trivial, fun _ hi => ⟨hi, rfl, rfl, rfl, fun _ _ => ⟨rfl, trivial⟩⟩⟩, trivial⟩
            · exact ⟨S, true, rfl, rfl, .inl ⟨rfl, hk, ts, hS, by omega⟩⟩
    · exact absurd (show sysOk p s = false by assumption) (by rw [hk]; decide)
  · skip
    refine fn_ (D := []) [] tab_ok hmo func85 rfl rfl rfl rfl ?_
    repeat' ((conv => whnf); first | (refine And.intro ?_ ?_) | (intro _) | (apply call0_ (g := 28); refine call_SysOk []  rfl ⟨⟨⟨rfl, rfl, fun _ _ => rfl⟩, ⟨rfl, rfl, fun _ _ => rfl⟩, trivial⟩, ⟨⟨rfl, rfl, fun _ _ => rfl⟩, ⟨rfl, rfl, fun _ _ => rfl⟩, rfl, ⟨rfl, rfl, fun _ _ => rfl⟩, trivial⟩, trivial⟩ trivial (by first | exact trivial | exact ⟨trivial, trivial⟩) ?_ ?_) | (apply call0_ (g := 56); refine call_l6In []  rfl ⟨rfl, rfl, rfl, trivial⟩ trivial (by first | exact trivial | exact ⟨trivial, trivial⟩) ?_ ?_))
    all_goals (try simp only [Int.toNat_natCast] at *)
    all_goals first | omega | skip
    all_goals first | exact absurd (show sysOk p s = true by assumption) (fun h => hok ⟨h, by omega⟩) | skip
    all_goals
      (try (conv => whnf))
      apply ret_ []
      apply retAt_ [.nil, .nil, .nil, .all 100] (.t [.a [.s ⟨0, 0⟩ 0, .s ⟨1, 0⟩ 0, iv 0, .s ⟨2, 0⟩ 0], .c (.v (.bool false))]) [wC nilS 0, wT nilS 0 3, wL nilS 0, wR nilS 0] rfl rfl
      · exact ⟨⟨⟨trivial, rfl⟩, ⟨trivial, rfl⟩, rfl, ⟨trivial, rfl⟩, trivial⟩, rfl, trivial⟩
      · exact ⟨rfl, rfl, rfl, ⟨trivial, fun _ h => absurd h (Nat.not_lt_zero _)⟩, trivial⟩
      · exact ⟨nilS, false, rfl, rfl, .inr ⟨rfl, rfl⟩⟩
theorem callx_SysRest {al0 : Lim} {s0 : St} {as0 : List Operand} {d0 : Option Tmp} {K0 : St → Prop} {p : DProg} {s : DSys} {most : Int} (ρ : List Sel) (cok_ : CallOK prog 85 [.a (eProg p), .a (eSys s), int most] [] (fun r os => ∃ (R : DSys) (b : Bool), os = [wC R R.cells.length, wT R R.tasks.length 3, wL R R.log.length, wR R R.tasks.length] ∧ r = .t [.a [.s ⟨0, 0⟩ R.cells.length, .s ⟨1, 0⟩ R.tasks.length, iv R.clock, .s ⟨2, 0⟩ R.log.length], .c (.v (.bool b))] ∧ (restP p s R b))) (cn_ : nodupB (keysOf ρ) = true) (ca_ : tvsLe ρ s0.loc.length (as0.map (ev s0)) [.a (eProg p), .a (eSys s), int most]) (co_ : locLe ρ s0.loc.length s0.loc s0.fz ρ []) (cl_ : limP al0 s0.loc ρ True) (ck_ : ∀ (R : DSys) (b : Bool), (restP p s R b) → placesK s0.loc ρ ([wC R R.cells.length, wT R R.tasks.length 3, wL R R.log.length, wR R R.tasks.length].map (AObj.up ρ s0.loc.length)) fun loc' => s0.afterK loc' d0 ((.t [.a [.s ⟨0, 0⟩ R.cells.length, .s ⟨1, 0⟩ R.tasks.length, iv R.clock, .s ⟨2, 0⟩ R.log.length], .c (.v (.bool b))] : TV).up ρ s0.loc.length) K0) : CallAt prog al0 s0 85 as0 d0 K0 :=
  callB ρ cok_ cn_ ca_ co_ cl_ (by rintro r os ⟨R, b, rfl, rfl, hf0⟩; exact ck_ R b hf0)
theorem call_SysRest {al0 : Lim} {s0 : St} {as0 : List Operand} {d0 : Option Tmp} {K0 : St → Prop} {p : DProg} {s : DSys} {most : Int} (ρ : List Sel) (hl : s.log.length ≤ 1000000) (he : ∀ x ∈ s.log, smallE x) (cn_ : nodupB (keysOf ρ) = true) (ca_ : tvsLe ρ s0.loc.length (as0.map (ev s0)) [.a (eProg p), .a (eSys s), int most]) (co_ : locLe ρ s0.loc.length s0.loc s0.fz ρ []) (cl_ : limP al0 s0.loc ρ True) (ck_ : ∀ (R : DSys) (b : Bool), (restP p s R b) → placesK s0.loc ρ ([wC R R.cells.length, wT R R.tasks.length 3, wL R R.log.length, wR R R.tasks.length].map (AObj.up ρ s0.loc.length)) fun loc' => s0.afterK loc' d0 ((.t [.a [.s ⟨0, 0⟩ R.cells.length, .s ⟨1, 0⟩ R.tasks.length, iv R.clock, .s ⟨2, 0⟩ R.log.length], .c (.v (.bool b))] : TV).up ρ s0.loc.length) K0) : CallAt prog al0 s0 85 as0 d0 K0 :=
  callx_SysRest ρ (SysRest_ok p s most hl he) cn_ ca_ co_ cl_ ck_
end Go.Proofs.AYT
namespace Go.Proofs.AYT
open Go Go.Proofs.AY Go.Proofs.Try
def plans72 : Plans := [(3, ⟨.take 2 false (.take 3 false (.take 0 true (.take 1 true (.alt 4 (.take 5 false (.alt 6 (.alt 7 (.take 8 false (.take 9 false (.take 10 false (.alt 11 .done .done)))) .done) .done)) .done)))), [11], [0]⟩),
  (4, ⟨.take 0 true (.alt 1 (.alt 2 (.alt 3 .done .done) .done) (.alt 2 (.take 1 true (.alt 3 .done .done)) .done)), [2, 3], []⟩)]
theorem plans72_ok : plansOk plans72 (bodyOf f72) = true := by kernel_rfl
set_option maxRecDepth 100000 in
theorem l71Sys_ok (R : Rd) (q : Int) (hq : 0 ≤ q ∧ q < 1099000000000) : CallOK prog 72 [ptr 0] [rdr R q] (fun r os => ∃ (q' : Int) (P : DProg) (S : DSys), os = [rdr R q', wC S S.cells.length, wT S S.tasks.length 4, wL S S.log.length, wR S S.tasks.length] ∧ r = .t [.a (eProg P), .a [.s ⟨1, 0⟩ S.cells.length, .s ⟨2, 0⟩ S.tasks.length, iv S.clock, .s ⟨3, 0⟩ S.log.length]] ∧ (q ≤ q' ∧ q' ≤ q + 30000) ∧ (drawnP P S)) := by
  refine fn_ [] tab_ok hmo func72 rfl rfl plans72_ok rfl ?_
  repeat' ((conv => whnf); first | (refine And.intro ?_ ?_) | (intro _) | (apply call0_ (g := 53); refine call_l71Prog [.all 0] (by omega) rfl ⟨rfl, trivial⟩ ⟨⟨trivial, rfl, ⟨rfl, rfl, fun _ _ => rfl⟩, rfl, trivial⟩, trivial⟩ (by first | exact trivial | exact ⟨⟨rfl, Nat.le_refl _, trivial⟩, trivial⟩ | exact ⟨⟨rfl, trivial, trivial⟩, trivial⟩) ?_) | (apply call0_ (g := 91); refine call_SysNew [] (by assumption) rfl ⟨⟨⟨rfl, rfl, fun _ _ => rfl⟩, ⟨rfl, rfl, fun _ _ => rfl⟩, trivial⟩, trivial⟩ trivial (by first | exact trivial | exact ⟨trivial, trivial⟩) ?_) | (apply call0_ (g := 52); refine call_pick [.all 0] (by omega) rfl ⟨rfl, rfl, trivial⟩ ⟨⟨trivial, rfl, ⟨rfl, rfl, fun _ _ => rfl⟩, rfl, trivial⟩, trivial⟩ (by first | exact trivial | exact ⟨⟨rfl, Nat.le_refl _, trivial⟩, trivial⟩ | exact ⟨⟨rfl, trivial, trivial⟩, trivial⟩) ?_) | (apply call0_ (g := 92); refine call_l71Turns [.all 0] (by omega) (by omega) rfl ⟨rfl, rfl, trivial⟩ ⟨⟨trivial, rfl, ⟨rfl, rfl, fun _ _ => rfl⟩, rfl, trivial⟩, trivial⟩ (by first | exact trivial | exact ⟨⟨rfl, Nat.le_refl _, trivial⟩, trivial⟩ | exact ⟨⟨rfl, trivial, trivial⟩, trivial⟩) ?_) | (apply call0_ (g := 54); refine call_SysRun [] (Nat.zero_le _) (fun x hx => by cases hx) rfl ⟨⟨⟨rfl, rfl, fun _ _ => rfl⟩, ⟨rfl, rfl, fun _ _ => rfl⟩, trivial⟩, ⟨⟨rfl, rfl, fun _ _ => rfl⟩, ⟨rfl, rfl, fun _ _ => rfl⟩, rfl, ⟨rfl, rfl, fun _ _ => rfl⟩, trivial⟩, ⟨rfl, rfl, fun _ _ => rfl⟩, trivial⟩ trivial (by first | exact trivial | exact ⟨trivial, trivial⟩) ?_))
  all_goals (try simp only [Int.toNat_natCast] at *)
  all_goals first | omega | skip
  all_goals
    rename_i q1 P hq1 hP hPc v hv0 hv1 q2 ts hq2 hts
    conv => whnf
    apply ret_ []
    apply retAt_ [.all 0, .all 5, .all 6, .all 7, .all 8] (.t [.a (eProg P), .a [.s ⟨1, 0⟩ (runR P (sysNew P) ts).cells.length, .s ⟨2, 0⟩ (runR P (sysNew P) ts).tasks.length, iv (runR P (sysNew P) ts).clock, .s ⟨3, 0⟩ (runR P (sysNew P) ts).log.length]]) [rdr R q2, wC (runR P (sysNew P) ts) (runR P (sysNew P) ts).cells.length, wT (runR P (sysNew P) ts) (runR P (sysNew P) ts).tasks.length 4, wL (runR P (sysNew P) ts) (runR P (sysNew P) ts).log.length, wR (runR P (sysNew P) ts) (runR P (sysNew P) ts).tasks.length] rfl rfl
    · exact ⟨⟨⟨rfl, rfl, fun _ _ => rfl⟩, ⟨rfl, rfl, fun _ _ => rfl⟩, trivial⟩, ⟨rfl, rfl, rfl, rfl, trivial⟩, trivial⟩
    · exact ⟨⟨trivial, rfl, ⟨rfl, rfl, fun _ _ => rfl⟩, rfl, trivial⟩, ⟨trivial, rfl, rfl, rfl, fun _ _ => ⟨rfl, rfl, rfl, trivial⟩⟩, ⟨trivial, rfl, rfl, rfl, fun _ _ => ⟨rfl, rfl, rfl, rfl, rfl, rfl, rfl, rfl, ⟨rfl, rfl, fun _ _ => rfl⟩, ⟨rfl, rfl, fun _ _ => rfl⟩, ⟨rfl, rfl, fun _ _ => rfl⟩, rfl, rfl, trivial⟩⟩, ⟨trivial, rfl, rfl, rfl, fun _ _ => ⟨rfl, rfl, rfl, ⟨rfl, rfl, fun _ _ => rfl⟩, ⟨rfl, rfl, fun _ _ => rfl⟩, rfl, trivial⟩⟩, ⟨trivial, fun _ hi => ⟨hi, rfl, rfl, rfl, fun _ _ => ⟨rfl, trivial⟩⟩⟩, trivial⟩
    · have := hv1 (by omega)
      exact ⟨q2, P, runR P (sysNew P) ts, rfl, rfl, by omega, ⟨hP, hPc⟩, ts, runR_eq (sysNew_ok hP) (by omega), by omega⟩
theorem callx_l71Sys {al0 : Lim} {s0 : St} {as0 : List Operand} {d0 : Option Tmp} {K0 : St → Prop} {R : Rd} {q : Int} (ρ : List Sel) (cok_ : CallOK prog 72 [ptr 0] [rdr R q] (fun r os => ∃ (q' : Int) (P : DProg) (S : DSys), os = [rdr R q', wC S S.cells.length, wT S S.tasks.length 4, wL S S.log.length, wR S S.tasks.length] ∧ r = .t [.a (eProg P), .a [.s ⟨1, 0⟩ S.cells.length, .s ⟨2, 0⟩ S.tasks.length, iv S.clock, .s ⟨3, 0⟩ S.log.length]] ∧ (q ≤ q' ∧ q' ≤ q + 30000) ∧ (drawnP P S))) (cn_ : nodupB (keysOf ρ) = true) (ca_ : tvsLe ρ s0.loc.length (as0.map (ev s0)) [ptr 0]) (co_ : locLe ρ s0.loc.length s0.loc s0.fz ρ [rdr R q]) (cl_ : limP al0 s0.loc ρ True) (ck_ : ∀ (q' : Int) (P : DProg) (S : DSys), (q ≤ q' ∧ q' ≤ q + 30000) → (drawnP P S) → placesK s0.loc ρ ([rdr R q', wC S S.cells.length, wT S S.tasks.length 4, wL S S.log.length, wR S S.tasks.length].map (AObj.up ρ s0.loc.length)) fun loc' => s0.afterK loc' d0 ((.t [.a (eProg P), .a [.s ⟨1, 0⟩ S.cells.length, .s ⟨2, 0⟩ S.tasks.length, iv S.clock, .s ⟨3, 0⟩ S.log.length]] : TV).up ρ s0.loc.length) K0) : CallAt prog al0 s0 72 as0 d0 K0 :=
  callB ρ cok_ cn_ ca_ co_ cl_ (by rintro r os ⟨q', P, S, rfl, rfl, hf0, hf1⟩; exact ck_ q' P S hf0 hf1)
theorem call_l71Sys {al0 : Lim} {s0 : St} {as0 : List Operand} {d0 : Option Tmp} {K0 : St → Prop} {R : Rd} {q : Int} (ρ : List Sel) (hq : 0 ≤ q ∧ q < 1099000000000) (cn_ : nodupB (keysOf ρ) = true) (ca_ : tvsLe ρ s0.loc.length (as0.map (ev s0)) [ptr 0]) (co_ : locLe ρ s0.loc.length s0.loc s0.fz ρ [rdr R q]) (cl_ : limP al0 s0.loc ρ True) (ck_ : ∀ (q' : Int) (P : DProg) (S : DSys), (q ≤ q' ∧ q' ≤ q + 30000) → (drawnP P S) → placesK s0.loc ρ ([rdr R q', wC S S.cells.length, wT S S.tasks.length 4, wL S S.log.length, wR S S.tasks.length].map (AObj.up ρ s0.loc.length)) fun loc' => s0.afterK loc' d0 ((.t [.a (eProg P), .a [.s ⟨1, 0⟩ S.cells.length, .s ⟨2, 0⟩ S.tasks.length, iv S.clock, .s ⟨3, 0⟩ S.log.length]] : TV).up ρ s0.loc.length) K0) : CallAt prog al0 s0 72 as0 d0 K0 :=
  callx_l71Sys ρ (l71Sys_ok R q hq) cn_ ca_ co_ cl_ ck_
end Go.Proofs.AYT
namespace Go.Proofs.AYT
open Go Go.Proofs.AY Go.Proofs.Try
theorem l71Log_ok (R : Rd) (q : Int) (hq : 0 ≤ q ∧ q < 1098000000000) : CallOK prog 60 [ptr 0] [rdr R q] (fun r os => ∃ (q' : Int) (P : DProg) (L : List Entry), os = [rdr R q'] ∧ r = .t [.a (eProg P), .c (dl 6 eEntry L)] ∧ (q ≤ q' ∧ q' ≤ q + 40000) ∧ (logP P L)) := by
  refine fn_ (D := []) [] tab_ok hmo func60 rfl rfl rfl rfl ?_
  repeat' ((conv => whnf); first | (refine And.intro ?_ ?_) | (intro _) | (apply call0_ (g := 72); refine call_l71Sys [.all 0] (by omega) rfl ⟨rfl, trivial⟩ ⟨⟨trivial, rfl, ⟨rfl, rfl, fun _ _ => rfl⟩, rfl, trivial⟩, trivial⟩ (by first | exact trivial | exact ⟨⟨rfl, Nat.le_refl _, trivial⟩, trivial⟩ | exact ⟨⟨rfl, trivial, trivial⟩, trivial⟩) ?_) | (apply call_ (g := 85) [.weave 5 3 3, 2, 3, 4]) | (apply call0_ (g := 52); refine call_pick [.all 0] (by omega) rfl ⟨rfl, rfl, trivial⟩ ⟨⟨trivial, rfl, ⟨rfl, rfl, fun _ _ => rfl⟩, rfl, trivial⟩, trivial⟩ (by first | exact trivial | exact ⟨⟨rfl, Nat.le_refl _, trivial⟩, trivial⟩ | exact ⟨⟨rfl, trivial, trivial⟩, trivial⟩) ?_))
  all_goals first | omega | exact Nat.le_refl _ | exact ⟨3, fun _ _ => rfl⟩ | rfl | skip
  rename_i q1 P S hq1 hP
  have hrun := drawn_run hP
  have hsm := drawn_small hP
  have hrg : ∀ i, i < S.tasks.length → (S.tasks.getD i default).regs.length = 3 := fun i hi => (hrun.i.ht i hi).hr.1
  (refine call_SysRest [] (p := P) (s := S) hsm.1 hsm.2 rfl ⟨⟨⟨rfl, rfl, fun _ _ => rfl⟩, ⟨rfl, rfl, fun _ _ => rfl⟩, trivial⟩, ⟨⟨rfl, rfl, fun _ _ => rfl⟩, ⟨rfl, rfl, fun i hi => eTask_weave (hrg i hi)⟩, rfl, ⟨rfl, rfl, fun _ _ => rfl⟩, trivial⟩, rfl, trivial⟩ trivial (by first | exact trivial | exact ⟨trivial, trivial⟩) ?_)
  intro R' b hR
  have hgd := rest_good hP hR
  have hln := rest_len hP hR
  have hq2 : 0 ≤ q1 ∧ q1 < 1099511627776 := by omega
  have h9 : 1 < (R'.log.length : Int) → 0 ≤ (R'.log.getD ((R'.log.length : Int) - 1).toNat default).when ∧ (R'.log.getD ((R'.log.length : Int) - 1).toNat default).when ≤ 1000 := fun h => by
    rw [show ((R'.log.length : Int) - 1).toNat = R'.log.length - 1 by omega]
    have := hgd _ (getD_mem default (l := R'.log) (j := R'.log.length - 1) (by omega))
    exact ⟨this.2.2.2.2.1, this.2.2.2.2.2.1⟩
  repeat' ((conv => whnf); first | (refine And.intro ?_ ?_) | (intro _) | (apply call0_ (g := 52); refine call_pick [.all 0] hq2 rfl ⟨rfl, rfl, trivial⟩ ⟨⟨trivial, rfl, ⟨rfl, rfl, fun _ _ => rfl⟩, rfl, trivial⟩, trivial⟩ (by first | exact trivial | exact ⟨⟨rfl, Nat.le_refl _, trivial⟩, trivial⟩ | exact ⟨⟨rfl, trivial, trivial⟩, trivial⟩) ?_))
  all_goals (try simp only [Int.toNat_natCast] at *)
  all_goals first | omega | skip
  · rename_i v hv0 hv1 hv2 hn0 hn1 hn2
    conv => whnf
    apply ret_ [10]
    refine And.intro ?_ ?_
    · intro i hi
      show (resL _ (if i = 0 then _ else _)).all CV.immB = true
      by_cases h : i = 0
      · simp only [if_pos h]; rfl
      · simp only [if_neg h]; rfl
    apply retAt_ [.all 0] (.t [.a (eProg P), .c (dl 6 eEntry (bentL R'.log))]) [rdr R (q1 + 1)] rfl rfl
    · refine ⟨⟨⟨rfl, rfl, fun _ _ => rfl⟩, ⟨rfl, rfl, fun _ _ => rfl⟩, trivial⟩, ⟨rfl, List.length_set.symm, fun i hi => ?_⟩, trivial⟩
      rw [List.length_set] at hi
      show resL _ (if i = 0 then _ else eEntry (R'.log.getD i default)) = eEntry ((bentL R'.log).getD i default)
      unfold bentL
      rw [getD_set _ _ _ _ _ hi]
      by_cases h : i = 0
      · simp only [if_pos h]; rw [show ((R'.log.length : Int) - 1).toNat = R'.log.length - 1 by omega]; rfl
      · simp only [if_neg h]; rfl
    · exact ⟨⟨trivial, rfl, ⟨rfl, rfl, fun _ _ => rfl⟩, rfl, trivial⟩, trivial⟩
    · exact ⟨q1 + 1, P, bentL R'.log, rfl, rfl, by omega, S, R', b, hP, hR, .inr ⟨by omega, rfl⟩⟩
  all_goals
    conv => whnf
    apply ret_ [10]
    refine And.intro (fun _ _ => rfl) ?_
    apply retAt_ [.all 0] (.t [.a (eProg P), .c (dl 6 eEntry R'.log)]) [rdr R (q1 + 1)] rfl rfl
    · exact ⟨⟨⟨rfl, rfl, fun _ _ => rfl⟩, ⟨rfl, rfl, fun _ _ => rfl⟩, trivial⟩, ⟨rfl, rfl, fun _ _ => rfl⟩, trivial⟩
    · exact ⟨⟨trivial, rfl, ⟨rfl, rfl, fun _ _ => rfl⟩, rfl, trivial⟩, trivial⟩
    · exact ⟨q1 + 1, P, R'.log, rfl, rfl, by omega, S, R', b, hP, hR, .inl rfl⟩
theorem callx_l71Log {al0 : Lim} {s0 : St} {as0 : List Operand} {d0 : Option Tmp} {K0 : St → Prop} {R : Rd} {q : Int} (ρ : List Sel) (cok_ : CallOK prog 60 [ptr 0] [rdr R q] (fun r os => ∃ (q' : Int) (P : DProg) (L : List Entry), os = [rdr R q'] ∧ r = .t [.a (eProg P), .c (dl 6 eEntry L)] ∧ (q ≤ q' ∧ q' ≤ q + 40000) ∧ (logP P L))) (cn_ : nodupB (keysOf ρ) = true) (ca_ : tvsLe ρ s0.loc.length (as0.map (ev s0)) [ptr 0]) (co_ : locLe ρ s0.loc.length s0.loc s0.fz ρ [rdr R q]) (cl_ : limP al0 s0.loc ρ True) (ck_ : ∀ (q' : Int) (P : DProg) (L : List Entry), (q ≤ q' ∧ q' ≤ q + 40000) → (logP P L) → placesK s0.loc ρ ([rdr R q'].map (AObj.up ρ s0.loc.length)) fun loc' => s0.afterK loc' d0 ((.t [.a (eProg P), .c (dl 6 eEntry L)] : TV).up ρ s0.loc.length) K0) : CallAt prog al0 s0 60 as0 d0 K0 :=
  callB ρ cok_ cn_ ca_ co_ cl_ (by rintro r os ⟨q', P, L, rfl, rfl, hf0, hf1⟩; exact ck_ q' P L hf0 hf1)
theorem call_l71Log {al0 : Lim} {s0 : St} {as0 : List Operand} {d0 : Option Tmp} {K0 : St → Prop} {R : Rd} {q : Int} (ρ : List Sel) (hq : 0 ≤ q ∧ q < 1098000000000) (cn_ : nodupB (keysOf ρ) = true) (ca_ : tvsLe ρ s0.loc.length (as0.map (ev s0)) [ptr 0]) (co_ : locLe ρ s0.loc.length s0.loc s0.fz ρ [rdr R q]) (cl_ : limP al0 s0.loc ρ True) (ck_ : ∀ (q' : Int) (P : DProg) (L : List Entry), (q ≤ q' ∧ q' ≤ q + 40000) → (logP P L) → placesK s0.loc ρ ([rdr R q'].map (AObj.up ρ s0.loc.length)) fun loc' => s0.afterK loc' d0 ((.t [.a (eProg P), .c (dl 6 eEntry L)] : TV).up ρ s0.loc.length) K0) : CallAt prog al0 s0 60 as0 d0 K0 :=
  callx_l71Log ρ (l71Log_ok R q hq) cn_ ca_ co_ cl_ ck_
end Go.Proofs.AYT
