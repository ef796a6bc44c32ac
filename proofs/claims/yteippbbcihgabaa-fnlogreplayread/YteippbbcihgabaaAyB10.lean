/- A symbolic executor over the model, plain words, and contracts of the program's functions, part 10. Conditions: as each theorem tells. -/
import Derived.Test.YteippbbcihgabaaAyB09
set_option linter.unusedVariables false
set_option linter.unusedSimpArgs false
set_option linter.unusedSectionVars false
namespace Go.Proofs.AYT
open Go Go.Proofs.AY Go.Proofs.Try
def plans116 : Plans := [(5, ⟨.take 0 false (.take 1 false (.take 2 false (.take 3 false (.take 5 false (.take 6 false (.take 4 true (.take 7 true (.take 8 false (.take 9 false (.take 10 false (.alt 11 .done .done))))))))))), [11], []⟩)]
theorem plans116_ok : plansOk plans116 (bodyOf f116) = true := by kernel_rfl
theorem check_ok (p : DProg) (s : DSys) (nc nt nl t : Nat) (hc : s.cells.length = nc) (hn : s.tasks.length = nt) (ht : t < nt) (ho : (tk s t).old.length = 3) (ha : 0 ≤ (tk s t).at_) (hk : (tk s t).at_ < (tk s t).reads.length → 0 ≤ (readAt (tk s t)).cell ∧ (readAt (tk s t)).cell < nc) : CallOK prog 116 [ptr 0, int t] [wB p s nc nt nl 1 2 3, wC s nc, wT s nt 4, wL s nl, wR s nt] (fun r os => os = [wB p (checkS s t) nc nt nl 5 6 7, .dead, .dead, .dead, .dead, wC (checkS s t) nc, wT (checkS s t) nt 8, wL (checkS s t) nl, wR (checkS s t) nt] ∧ r = .t []) := by
  have ha' : 0 ≤ (s.tasks.getD t default).at_ := ha
  have hk' : (s.tasks.getD t default).at_ < (s.tasks.getD t default).reads.length → 0 ≤ ((s.tasks.getD t default).reads.getD (s.tasks.getD t default).at_.toNat default).cell ∧ ((s.tasks.getD t default).reads.getD (s.tasks.getD t default).at_.toNat default).cell < nc := hk
  unfold checkS
  refine fn_ [] tab_ok hmo func116 rfl rfl plans116_ok rfl ?_
  repeat' ((conv => whnf); first | (refine And.intro ?_ ?_) | (intro _) | (apply call0_ (g := 115); refine call_stage [.all 0, .all 1, .all 2, .all 3, .all 4] hn ht rfl ⟨rfl, rfl, rfl, trivial⟩ ⟨⟨trivial, rfl, ⟨rfl, rfl, fun _ _ => rfl⟩, ⟨rfl, rfl, fun _ _ => rfl⟩, rfl, rfl, rfl, rfl, trivial⟩, ⟨trivial, rfl, rfl, rfl, fun _ _ => ⟨rfl, rfl, rfl, trivial⟩⟩, ⟨trivial, rfl, rfl, rfl, fun _ _ => ⟨rfl, rfl, rfl, rfl, rfl, rfl, rfl, rfl, ⟨rfl, rfl, fun _ _ => rfl⟩, ⟨rfl, rfl, fun _ _ => rfl⟩, ⟨rfl, rfl, fun _ _ => rfl⟩, rfl, rfl, trivial⟩⟩, ⟨trivial, rfl, rfl, rfl, fun _ _ => ⟨rfl, rfl, rfl, ⟨rfl, rfl, fun _ _ => rfl⟩, ⟨rfl, rfl, fun _ _ => rfl⟩, rfl, trivial⟩⟩, ⟨trivial, fun _ hi => ⟨hi, rfl, rfl, rfl, fun _ _ => ⟨rfl, trivial⟩⟩⟩, trivial⟩ (by first | exact trivial | exact ⟨⟨rfl, Nat.le_refl _, trivial⟩, trivial⟩ | exact ⟨⟨rfl, trivial, ⟨rfl, trivial, ⟨rfl, trivial, ⟨rfl, trivial, ⟨rfl, trivial, trivial⟩⟩⟩⟩⟩, trivial⟩) ?_) | (apply call0_ (g := 125); refine call_blind [.all 0, .all 1, .all 2, .all 3, .all 4] hc hn ht (hk' (by simp only [Int.toNat_natCast] at *; omega)) rfl ⟨rfl, rfl, rfl, trivial⟩ ⟨⟨trivial, rfl, ⟨rfl, rfl, fun _ _ => rfl⟩, ⟨rfl, rfl, fun _ _ => rfl⟩, rfl, rfl, rfl, rfl, trivial⟩, ⟨trivial, rfl, rfl, rfl, fun _ _ => ⟨rfl, rfl, rfl, trivial⟩⟩, ⟨trivial, rfl, rfl, rfl, fun _ _ => ⟨rfl, rfl, rfl, rfl, rfl, rfl, rfl, rfl, ⟨rfl, rfl, fun _ _ => rfl⟩, ⟨rfl, rfl, fun _ _ => rfl⟩, ⟨rfl, rfl, fun _ _ => rfl⟩, rfl, rfl, trivial⟩⟩, ⟨trivial, rfl, rfl, rfl, fun _ _ => ⟨rfl, rfl, rfl, ⟨rfl, rfl, fun _ _ => rfl⟩, ⟨rfl, rfl, fun _ _ => rfl⟩, rfl, trivial⟩⟩, ⟨trivial, fun _ hi => ⟨hi, rfl, rfl, rfl, fun _ _ => ⟨rfl, trivial⟩⟩⟩, trivial⟩ (by first | exact trivial | exact ⟨⟨rfl, Nat.le_refl _, trivial⟩, trivial⟩ | exact ⟨⟨rfl, trivial, ⟨rfl, trivial, ⟨rfl, trivial, ⟨rfl, trivial, ⟨rfl, trivial, trivial⟩⟩⟩⟩⟩, trivial⟩) ?_ ?_) | (apply call0_ (g := 120); refine call_again [.all 0, .all 1, .all 2, .all 3, .all 4] hc hn ht ho rfl ⟨rfl, rfl, trivial⟩ ⟨⟨trivial, rfl, ⟨rfl, rfl, fun _ _ => rfl⟩, ⟨rfl, rfl, fun _ _ => rfl⟩, rfl, rfl, rfl, rfl, trivial⟩, ⟨trivial, rfl, rfl, rfl, fun _ _ => ⟨rfl, rfl, rfl, trivial⟩⟩, ⟨trivial, rfl, rfl, rfl, fun _ _ => ⟨rfl, rfl, rfl, rfl, rfl, rfl, rfl, rfl, ⟨rfl, rfl, fun _ _ => rfl⟩, ⟨rfl, rfl, fun _ _ => rfl⟩, ⟨rfl, rfl, fun _ _ => rfl⟩, rfl, rfl, trivial⟩⟩, ⟨trivial, rfl, rfl, rfl, fun _ _ => ⟨rfl, rfl, rfl, ⟨rfl, rfl, fun _ _ => rfl⟩, ⟨rfl, rfl, fun _ _ => rfl⟩, rfl, trivial⟩⟩, ⟨trivial, fun _ hi => ⟨hi, rfl, rfl, rfl, fun _ _ => ⟨rfl, trivial⟩⟩⟩, trivial⟩ (by first | exact trivial | exact ⟨⟨rfl, Nat.le_refl _, trivial⟩, trivial⟩ | exact ⟨⟨rfl, trivial, ⟨rfl, trivial, ⟨rfl, trivial, ⟨rfl, trivial, ⟨rfl, trivial, trivial⟩⟩⟩⟩⟩, trivial⟩) ?_))
  all_goals (try simp only [Int.toNat_natCast] at *)
  all_goals first | omega | skip
  · rename_i hx
    have hR5 : wR (setT s t { tk s t with stage := 5, at_ := 0 }) nt = wR s nt := wR_set rfl
    rw [if_pos hx]
    apply ret_ []
    apply retAt_ [.all 0, .gone 1, .gone 2, .gone 3, .gone 4, .all 1, .all 2, .all 3, .all 4] (.t []) [wB p s nc nt nl 5 6 7, .dead, .dead, .dead, .dead, wC s nc, wT (setT s t { tk s t with stage := 5, at_ := 0 }) nt 8, wL s nl, wR s nt] rfl rfl
    · trivial
    · exact ⟨⟨trivial, rfl, ⟨rfl, rfl, fun _ _ => rfl⟩, ⟨rfl, rfl, fun _ _ => rfl⟩, rfl, rfl, rfl, rfl, trivial⟩, trivial, trivial, trivial, trivial, ⟨trivial, rfl, rfl, rfl, fun _ _ => ⟨rfl, rfl, rfl, trivial⟩⟩, ⟨trivial, rfl, rfl, rfl, fun _ _ => ⟨rfl, rfl, rfl, rfl, rfl, rfl, rfl, rfl, ⟨rfl, rfl, fun _ _ => rfl⟩, ⟨rfl, rfl, fun _ _ => rfl⟩, ⟨rfl, rfl, fun _ _ => rfl⟩, rfl, rfl, trivial⟩⟩, ⟨trivial, rfl, rfl, rfl, fun _ _ => ⟨rfl, rfl, rfl, ⟨rfl, rfl, fun _ _ => rfl⟩, ⟨rfl, rfl, fun _ _ => rfl⟩, rfl, trivial⟩⟩, ⟨trivial, fun _ hi => ⟨hi, rfl, rfl, rfl, fun _ _ => ⟨rfl, trivial⟩⟩⟩, trivial⟩
    · exact ⟨by rw [hR5]; rfl, rfl⟩
  · rw [if_neg (show ¬ _ by simp only [tk]; omega), if_pos (by assumption)]
    apply ret_ []
    apply retAt_ [.all 0, .gone 1, .gone 2, .gone 3, .gone 4, .all 6, .all 7, .all 8, .all 9] (.t []) [wB p (againS s t) nc nt nl 5 6 7, .dead, .dead, .dead, .dead, wC (againS s t) nc, wT (againS s t) nt 8, wL (againS s t) nl, wR (againS s t) nt] rfl rfl
    · trivial
    · exact ⟨⟨trivial, rfl, ⟨rfl, rfl, fun _ _ => rfl⟩, ⟨rfl, rfl, fun _ _ => rfl⟩, rfl, rfl, rfl, rfl, trivial⟩, trivial, trivial, trivial, trivial, ⟨trivial, rfl, rfl, rfl, fun _ _ => ⟨rfl, rfl, rfl, trivial⟩⟩, ⟨trivial, rfl, rfl, rfl, fun _ _ => ⟨rfl, rfl, rfl, rfl, rfl, rfl, rfl, rfl, ⟨rfl, rfl, fun _ _ => rfl⟩, ⟨rfl, rfl, fun _ _ => rfl⟩, ⟨rfl, rfl, fun _ _ => rfl⟩, rfl, rfl, trivial⟩⟩, ⟨trivial, rfl, rfl, rfl, fun _ _ => ⟨rfl, rfl, rfl, ⟨rfl, rfl, fun _ _ => rfl⟩, ⟨rfl, rfl, fun _ _ => rfl⟩, rfl, trivial⟩⟩, ⟨trivial, fun _ hi => ⟨hi, rfl, rfl, rfl, fun _ _ => ⟨rfl, trivial⟩⟩⟩, trivial⟩
    · exact ⟨rfl, rfl⟩
  · have hR5 : wR (setT s t { tk s t with at_ := (tk s t).at_ + 1 }) nt = wR s nt := wR_set rfl
    rw [if_neg (show ¬ _ by simp only [tk]; omega), if_neg (by assumption)]
    apply ret_ []
    apply retAt_ [.all 0, .gone 1, .gone 2, .gone 3, .gone 4, .all 1, .all 2, .all 3, .all 4] (.t []) [wB p s nc nt nl 5 6 7, .dead, .dead, .dead, .dead, wC s nc, wT (setT s t { tk s t with at_ := (tk s t).at_ + 1 }) nt 8, wL s nl, wR s nt] rfl rfl
    · trivial
    · exact ⟨⟨trivial, rfl, ⟨rfl, rfl, fun _ _ => rfl⟩, ⟨rfl, rfl, fun _ _ => rfl⟩, rfl, rfl, rfl, rfl, trivial⟩, trivial, trivial, trivial, trivial, ⟨trivial, rfl, rfl, rfl, fun _ _ => ⟨rfl, rfl, rfl, trivial⟩⟩, ⟨trivial, rfl, rfl, rfl, setLeJ (fun j x => eTaskO x 8 j) hn (fun _ _ _ => ⟨rfl, rfl, rfl, rfl, rfl, rfl, rfl, rfl, ⟨rfl, rfl, fun _ _ => rfl⟩, ⟨rfl, rfl, fun _ _ => rfl⟩, ⟨rfl, rfl, fun _ _ => rfl⟩, rfl, rfl, trivial⟩) ⟨rfl, rfl, rfl, rfl, rfl, rfl, rfl, rfl, ⟨rfl, rfl, fun _ _ => rfl⟩, ⟨rfl, rfl, fun _ _ => rfl⟩, ⟨rfl, rfl, fun _ _ => rfl⟩, rfl, rfl, trivial⟩⟩, ⟨trivial, rfl, rfl, rfl, fun _ _ => ⟨rfl, rfl, rfl, ⟨rfl, rfl, fun _ _ => rfl⟩, ⟨rfl, rfl, fun _ _ => rfl⟩, rfl, trivial⟩⟩, ⟨trivial, fun _ hi => ⟨hi, rfl, rfl, rfl, fun _ _ => ⟨rfl, trivial⟩⟩⟩, trivial⟩
    · exact ⟨by rw [hR5]; rfl, rfl⟩
theorem callx_check {al0 : Lim} {s0 : St} {as0 : List Operand} {d0 : Option Tmp} {K0 : St → Prop} {p : DProg} {s : DSys} {nc nt nl t : Nat} (ρ : List Sel) (cok_ : CallOK prog 116 [ptr 0, int t] [wB p s nc nt nl 1 2 3, wC s nc, wT s nt 4, wL s nl, wR s nt] (fun r os => os = [wB p (checkS s t) nc nt nl 5 6 7, .dead, .dead, .dead, .dead, wC (checkS s t) nc, wT (checkS s t) nt 8, wL (checkS s t) nl, wR (checkS s t) nt] ∧ r = .t [])) (cn_ : nodupB (keysOf ρ) = true) (ca_ : tvsLe ρ s0.loc.length (as0.map (ev s0)) [ptr 0, int t]) (co_ : locLe ρ s0.loc.length s0.loc s0.fz ρ [wB p s nc nt nl 1 2 3, wC s nc, wT s nt 4, wL s nl, wR s nt]) (cl_ : limP al0 s0.loc ρ True) (ck_ : placesK s0.loc ρ ([wB p (checkS s t) nc nt nl 5 6 7, .dead, .dead, .dead, .dead, wC (checkS s t) nc, wT (checkS s t) nt 8, wL (checkS s t) nl, wR (checkS s t) nt].map (AObj.up ρ s0.loc.length)) fun loc' => s0.afterK loc' d0 ((.t [] : TV).up ρ s0.loc.length) K0) : CallAt prog al0 s0 116 as0 d0 K0 :=
  callB ρ cok_ cn_ ca_ co_ cl_ (by rintro r os ⟨rfl, rfl⟩; exact ck_ )
theorem call_check {al0 : Lim} {s0 : St} {as0 : List Operand} {d0 : Option Tmp} {K0 : St → Prop} {p : DProg} {s : DSys} {nc nt nl t : Nat} (ρ : List Sel) (hc : s.cells.length = nc) (hn : s.tasks.length = nt) (ht : t < nt) (ho : (tk s t).old.length = 3) (ha : 0 ≤ (tk s t).at_) (hk : (tk s t).at_ < (tk s t).reads.length → 0 ≤ (readAt (tk s t)).cell ∧ (readAt (tk s t)).cell < nc) (cn_ : nodupB (keysOf ρ) = true) (ca_ : tvsLe ρ s0.loc.length (as0.map (ev s0)) [ptr 0, int t]) (co_ : locLe ρ s0.loc.length s0.loc s0.fz ρ [wB p s nc nt nl 1 2 3, wC s nc, wT s nt 4, wL s nl, wR s nt]) (cl_ : limP al0 s0.loc ρ True) (ck_ : placesK s0.loc ρ ([wB p (checkS s t) nc nt nl 5 6 7, .dead, .dead, .dead, .dead, wC (checkS s t) nc, wT (checkS s t) nt 8, wL (checkS s t) nl, wR (checkS s t) nt].map (AObj.up ρ s0.loc.length)) fun loc' => s0.afterK loc' d0 ((.t [] : TV).up ρ s0.loc.length) K0) : CallAt prog al0 s0 116 as0 d0 K0 :=
  callx_check ρ (check_ok p s nc nt nl t hc hn ht ho ha hk) cn_ ca_ co_ cl_ ck_

def plans117 : Plans := [(2, ⟨.take 0 false (.take 1 false (.take 2 false (.take 3 false (.take 5 false (.take 7 false (.take 9 false (.take 4 true (.take 6 true (.take 8 true (.take 10 true (.take 11 false (.take 12 false (.alt 13 .done .done))))))))))))), [13], []⟩),
  (3, ⟨.take 0 false (.take 1 false (.take 2 false (.take 3 false (.take 5 false (.take 6 false (.take 4 true (.take 7 true (.take 8 false (.take 9 false (.take 10 false (.alt 11 .done .done))))))))))), [11], []⟩)]
theorem plans117_ok : plansOk plans117 (bodyOf f117) = true := by kernel_rfl
theorem write_ok (p : DProg) (s : DSys) (nc nt nl t : Nat) (hc : s.cells.length = nc) (hn : s.tasks.length = nt) (hl : s.log.length = nl) (ht : t < nt) (ha : 0 ≤ (tk s t).at_ ∧ (tk s t).at_ < (tk s t).puts.length) (hb : (tk s t).puts.length ≤ 1000000) (hk : 0 ≤ (putAt (tk s t)).cell ∧ (putAt (tk s t)).cell < nc) (hpc : 0 ≤ (tk s t).pc ∧ (tk s t).pc ≤ 1000000) (hrd : (tk s t).reads.length ≤ 1000000) (hnl : nl ≤ 1000000000) : CallOK prog 117 [ptr 0, int t] [wB p s nc nt nl 1 2 3, wC s nc, wT s nt 4, wL s nl, wR s nt] (fun r os => os = [wB p (writeS s t) nc nt (writeS s t).log.length 5 6 7, .dead, .dead, .dead, .dead, wC (writeS s t) nc, wT (writeS s t) nt 8, wL (writeS s t) (writeS s t).log.length, wR (writeS s t) nt] ∧ r = .t []) := by
  have hb' : (s.tasks.getD t default).puts.length ≤ 1000000 := hb
  have ha' : 0 ≤ (s.tasks.getD t default).at_ ∧ (s.tasks.getD t default).at_ < (s.tasks.getD t default).puts.length := ha
  have hk' : 0 ≤ ((s.tasks.getD t default).puts.getD (s.tasks.getD t default).at_.toNat default).cell ∧ ((s.tasks.getD t default).puts.getD (s.tasks.getD t default).at_.toNat default).cell < nc := hk
  obtain ⟨S2, hS2⟩ : ∃ S2, S2 = setT (writeC s t) t { tk s t with at_ := (tk s t).at_ + 1 } := ⟨_, rfl⟩
  have hR2 : wR S2 nt = wR s nt := by rw [hS2]; exact wR_set (s := writeC s t) rfl
  have hn2 : S2.tasks.length = nt := by rw [hS2, setT_len]; exact hn
  have ht2 : tk S2 t = { tk s t with at_ := (tk s t).at_ + 1 } := by rw [hS2]; exact tk_setT (by show t < s.tasks.length; omega)
  have hl2 : S2.log.length = nl := by rw [hS2]; exact hl
  unfold writeS
  rw [← hS2]
  refine fn_ [4] tab_ok hmo func117 rfl rfl plans117_ok rfl ?_
  repeat' ((conv => whnf); first | (refine And.intro ?_ ?_) | (intro _))
  all_goals (try simp only [Int.toNat_natCast] at *)
  all_goals first | omega | skip
  apply cut_ (fun u : Unit => True) (fun u : Unit => (⟨56, [(0, ptr 0), (1, int t), (4, ptr 5)], [wB p S2 nc nt nl 1 2 3, wC S2 nc, wT S2 nt 4, wL S2 nl, wR S2 nt, .box 49 (eTaskO (tk s t) 4 t)], []⟩ : St))
  · rw [hR2]
    subst hS2
    repeat' ((conv => whnf); first | (refine And.intro ?_ ?_) | (intro _))
    all_goals (try simp only [Int.toNat_natCast] at *)
    all_goals first | omega | skip
    (apply to_ []; apply toAt_ [.all 0, .all 1, .all 2, .all 3, .all 4, .all 5] (); rotate_left 1; exact ⟨rfl, rfl, rfl, rfl, ⟨rfl, rfl, rfl, trivial⟩, ⟨trivial, rfl, ⟨rfl, rfl, fun _ _ => rfl⟩, ⟨rfl, rfl, fun _ _ => rfl⟩, rfl, rfl, rfl, rfl, trivial⟩, ⟨trivial, rfl, rfl, rfl, setLeJ (fun _ x => eCell x) hc (fun _ _ _ => ⟨rfl, rfl, rfl, trivial⟩) ⟨rfl, rfl, rfl, trivial⟩⟩, ⟨trivial, rfl, rfl, rfl, setLeJ (fun j x => eTaskO x 4 j) hn (fun _ _ _ => ⟨rfl, rfl, rfl, rfl, rfl, rfl, rfl, rfl, ⟨rfl, rfl, fun _ _ => rfl⟩, ⟨rfl, rfl, fun _ _ => rfl⟩, ⟨rfl, rfl, fun _ _ => rfl⟩, rfl, rfl, trivial⟩) ⟨rfl, rfl, rfl, rfl, rfl, rfl, rfl, rfl, ⟨rfl, rfl, fun _ _ => rfl⟩, ⟨rfl, rfl, fun _ _ => rfl⟩, ⟨rfl, rfl, fun _ _ => rfl⟩, rfl, rfl, trivial⟩⟩, ⟨trivial, rfl, rfl, rfl, fun _ _ => ⟨rfl, rfl, rfl, ⟨rfl, rfl, fun _ _ => rfl⟩, ⟨rfl, rfl, fun _ _ => rfl⟩, rfl, trivial⟩⟩, ⟨trivial, fun _ hi => ⟨hi, rfl, rfl, rfl, fun _ _ => ⟨rfl, trivial⟩⟩⟩, ⟨trivial, rfl, rfl, rfl, rfl, rfl, rfl, rfl, rfl, rfl, ⟨rfl, rfl, fun _ _ => rfl⟩, ⟨rfl, rfl, fun _ _ => rfl⟩, ⟨rfl, rfl, fun _ _ => rfl⟩, rfl, rfl, trivial⟩, trivial⟩)
    trivial
  · intro _ _
    repeat' ((conv => whnf); first | (refine And.intro ?_ ?_) | (intro _) | (apply call0_ (g := 121); refine call_end_ [.all 0, .all 1, .all 2, .all 3, .all 4] (s := S2) hn2 hl2 ht (by rw [ht2]; exact hpc) (by rw [ht2]; exact hrd) (by rw [ht2]; exact hb) hnl rfl ⟨rfl, rfl, rfl, trivial⟩ ⟨⟨trivial, rfl, ⟨rfl, rfl, fun _ _ => rfl⟩, ⟨rfl, rfl, fun _ _ => rfl⟩, rfl, rfl, rfl, rfl, trivial⟩, ⟨trivial, rfl, rfl, rfl, fun _ _ => ⟨rfl, rfl, rfl, trivial⟩⟩, ⟨trivial, rfl, rfl, rfl, fun _ _ => ⟨rfl, rfl, rfl, rfl, rfl, rfl, rfl, rfl, ⟨rfl, rfl, fun _ _ => rfl⟩, ⟨rfl, rfl, fun _ _ => rfl⟩, ⟨rfl, rfl, fun _ _ => rfl⟩, rfl, rfl, trivial⟩⟩, ⟨trivial, rfl, rfl, rfl, fun _ _ => ⟨rfl, rfl, rfl, ⟨rfl, rfl, fun _ _ => rfl⟩, ⟨rfl, rfl, fun _ _ => rfl⟩, rfl, trivial⟩⟩, ⟨trivial, fun _ hi => ⟨hi, rfl, rfl, rfl, fun _ _ => ⟨rfl, trivial⟩⟩⟩, trivial⟩ (by first | exact trivial | exact ⟨⟨rfl, Nat.le_refl _, trivial⟩, trivial⟩ | exact ⟨⟨rfl, trivial, ⟨rfl, trivial, ⟨rfl, trivial, ⟨rfl, trivial, ⟨rfl, trivial, trivial⟩⟩⟩⟩⟩, trivial⟩) ?_))
    all_goals (try simp only [Int.toNat_natCast] at *)
    all_goals first | omega | skip
    · rename_i he
      rw [if_pos he]
      have hle : (endS S2 t (tk s t).when).log.length = nl + 1 := by simp [endS, setT, logS, hl2]
      rw [hle]
      apply ret_ []
      apply retAt_ [.all 0, .gone 1, .gone 2, .gone 3, .gone 4, .all 6, .all 7, .all 8, .all 9] (.t []) [wB p (endS S2 t (tk s t).when) nc nt (nl + 1) 5 6 7, .dead, .dead, .dead, .dead, wC (endS S2 t (tk s t).when) nc, wT (endS S2 t (tk s t).when) nt 8, wL (endS S2 t (tk s t).when) (nl + 1), wR (endS S2 t (tk s t).when) nt] rfl rfl
      · trivial
      · exact ⟨⟨trivial, rfl, ⟨rfl, rfl, fun _ _ => rfl⟩, ⟨rfl, rfl, fun _ _ => rfl⟩, rfl, rfl, rfl, rfl, trivial⟩, trivial, trivial, trivial, trivial, ⟨trivial, rfl, rfl, rfl, fun _ _ => ⟨rfl, rfl, rfl, trivial⟩⟩, ⟨trivial, rfl, rfl, rfl, fun _ _ => ⟨rfl, rfl, rfl, rfl, rfl, rfl, rfl, rfl, ⟨rfl, rfl, fun _ _ => rfl⟩, ⟨rfl, rfl, fun _ _ => rfl⟩, ⟨rfl, rfl, fun _ _ => rfl⟩, rfl, rfl, trivial⟩⟩, ⟨trivial, rfl, rfl, rfl, fun _ _ => ⟨rfl, rfl, rfl, ⟨rfl, rfl, fun _ _ => rfl⟩, ⟨rfl, rfl, fun _ _ => rfl⟩, rfl, trivial⟩⟩, ⟨trivial, fun _ hi => ⟨hi, rfl, rfl, rfl, fun _ _ => ⟨rfl, trivial⟩⟩⟩, trivial⟩
      · exact ⟨rfl, rfl⟩
    · rename_i he
      rw [if_neg he, hl2]
      apply ret_ []
      apply retAt_ [.all 0, .gone 1, .gone 2, .gone 3, .gone 4, .all 1, .all 2, .all 3, .all 4] (.t []) [wB p S2 nc nt nl 5 6 7, .dead, .dead, .dead, .dead, wC S2 nc, wT S2 nt 8, wL S2 nl, wR S2 nt] rfl rfl
      · trivial
      · exact ⟨⟨trivial, rfl, ⟨rfl, rfl, fun _ _ => rfl⟩, ⟨rfl, rfl, fun _ _ => rfl⟩, rfl, rfl, rfl, rfl, trivial⟩, trivial, trivial, trivial, trivial, ⟨trivial, rfl, rfl, rfl, fun _ _ => ⟨rfl, rfl, rfl, trivial⟩⟩, ⟨trivial, rfl, rfl, rfl, fun _ _ => ⟨rfl, rfl, rfl, rfl, rfl, rfl, rfl, rfl, ⟨rfl, rfl, fun _ _ => rfl⟩, ⟨rfl, rfl, fun _ _ => rfl⟩, ⟨rfl, rfl, fun _ _ => rfl⟩, rfl, rfl, trivial⟩⟩, ⟨trivial, rfl, rfl, rfl, fun _ _ => ⟨rfl, rfl, rfl, ⟨rfl, rfl, fun _ _ => rfl⟩, ⟨rfl, rfl, fun _ _ => rfl⟩, rfl, trivial⟩⟩, ⟨trivial, fun _ hi => ⟨hi, rfl, rfl, rfl, fun _ _ => ⟨rfl, trivial⟩⟩⟩, trivial⟩
      · exact ⟨rfl, rfl⟩
theorem callx_write {al0 : Lim} {s0 : St} {as0 : List Operand} {d0 : Option Tmp} {K0 : St → Prop} {p : DProg} {s : DSys} {nc nt nl t : Nat} (ρ : List Sel) (cok_ : CallOK prog 117 [ptr 0, int t] [wB p s nc nt nl 1 2 3, wC s nc, wT s nt 4, wL s nl, wR s nt] (fun r os => os = [wB p (writeS s t) nc nt (writeS s t).log.length 5 6 7, .dead, .dead, .dead, .dead, wC (writeS s t) nc, wT (writeS s t) nt 8, wL (writeS s t) (writeS s t).log.length, wR (writeS s t) nt] ∧ r = .t [])) (cn_ : nodupB (keysOf ρ) = true) (ca_ : tvsLe ρ s0.loc.length (as0.map (ev s0)) [ptr 0, int t]) (co_ : locLe ρ s0.loc.length s0.loc s0.fz ρ [wB p s nc nt nl 1 2 3, wC s nc, wT s nt 4, wL s nl, wR s nt]) (cl_ : limP al0 s0.loc ρ True) (ck_ : placesK s0.loc ρ ([wB p (writeS s t) nc nt (writeS s t).log.length 5 6 7, .dead, .dead, .dead, .dead, wC (writeS s t) nc, wT (writeS s t) nt 8, wL (writeS s t) (writeS s t).log.length, wR (writeS s t) nt].map (AObj.up ρ s0.loc.length)) fun loc' => s0.afterK loc' d0 ((.t [] : TV).up ρ s0.loc.length) K0) : CallAt prog al0 s0 117 as0 d0 K0 :=
  callB ρ cok_ cn_ ca_ co_ cl_ (by rintro r os ⟨rfl, rfl⟩; exact ck_ )
theorem call_write {al0 : Lim} {s0 : St} {as0 : List Operand} {d0 : Option Tmp} {K0 : St → Prop} {p : DProg} {s : DSys} {nc nt nl t : Nat} (ρ : List Sel) (hc : s.cells.length = nc) (hn : s.tasks.length = nt) (hl : s.log.length = nl) (ht : t < nt) (ha : 0 ≤ (tk s t).at_ ∧ (tk s t).at_ < (tk s t).puts.length) (hb : (tk s t).puts.length ≤ 1000000) (hk : 0 ≤ (putAt (tk s t)).cell ∧ (putAt (tk s t)).cell < nc) (hpc : 0 ≤ (tk s t).pc ∧ (tk s t).pc ≤ 1000000) (hrd : (tk s t).reads.length ≤ 1000000) (hnl : nl ≤ 1000000000) (cn_ : nodupB (keysOf ρ) = true) (ca_ : tvsLe ρ s0.loc.length (as0.map (ev s0)) [ptr 0, int t]) (co_ : locLe ρ s0.loc.length s0.loc s0.fz ρ [wB p s nc nt nl 1 2 3, wC s nc, wT s nt 4, wL s nl, wR s nt]) (cl_ : limP al0 s0.loc ρ True) (ck_ : placesK s0.loc ρ ([wB p (writeS s t) nc nt (writeS s t).log.length 5 6 7, .dead, .dead, .dead, .dead, wC (writeS s t) nc, wT (writeS s t) nt 8, wL (writeS s t) (writeS s t).log.length, wR (writeS s t) nt].map (AObj.up ρ s0.loc.length)) fun loc' => s0.afterK loc' d0 ((.t [] : TV).up ρ s0.loc.length) K0) : CallAt prog al0 s0 117 as0 d0 K0 :=
  callx_write ρ (write_ok p s nc nt nl t hc hn hl ht ha hb hk hpc hrd hnl) cn_ ca_ co_ cl_ ck_
end Go.Proofs.AYT
namespace Go.Proofs.AYT
open Go Go.Proofs.AY Go.Proofs.Try
abbrev rRow (l : List Int) : AObj := .row 3 1 3 (fun j => eI (l.getD j default))
def plans124 : Plans := [(5, ⟨.take 0 false (.take 1 false (.take 3 false (.take 4 false (.take 8 false (.take 9 false (.take 2 true (.take 5 true (.take 6 false (.take 7 true (.take 10 true (.take 11 false (.take 12 true (.take 13 false (.take 14 false (.take 15 false (.alt 16 .done .done)))))))))))))))), [16], []⟩)]
theorem plans124_ok : plansOk plans124 (bodyOf f124) = true := by kernel_rfl
theorem l2Reg_ok (l : List Int) (d : Deed) (hl : l.length = 3) (hx : ∀ j, j < 3 → 0 ≤ l.getD j default ∧ l.getD j default ≤ 99) (hd : (d.kind = 3 ∨ d.kind = 4) → 0 ≤ d.a ∧ d.a ≤ 2) (hd4 : d.kind = 4 → 0 ≤ d.b ∧ d.b ≤ 2) : CallOK prog 124 [.c (.s ⟨0, 0⟩ 3), .a (eDeed d)] [rRow l] (fun r os => os = [rRow (regF l d)] ∧ r = .t []) := by
  have h1 : (d.kind = 3 ∨ d.kind = 4) → 0 ≤ l.getD d.a.toNat default ∧ l.getD d.a.toNat default ≤ 99 := fun h => hx _ (by omega)
  have h2 : d.kind = 4 → 0 ≤ l.getD d.b.toNat default ∧ l.getD d.b.toNat default ≤ 99 := fun h => hx _ (by omega)
  unfold regF
  refine fn_ [] tab_ok hmo func124 rfl rfl plans124_ok rfl ?_
  repeat' ((conv => whnf); first | (refine And.intro ?_ ?_) | (intro _))
  all_goals (try simp only [Int.toNat_natCast] at *)
  all_goals first | omega | skip
  · rw [if_pos (by omega)]
    apply ret_ []
    apply retAt_ [.all 0] (.t []) [rRow (l.set d.a.toNat d.b)] rfl rfl
    · trivial
    · exact ⟨⟨trivial, rfl, rfl, rfl, setLeJ (fun _ x => eI x) hl (fun _ _ _ => ⟨rfl, trivial⟩) ⟨rfl, trivial⟩⟩, trivial⟩
    · exact ⟨rfl, rfl⟩
  · rw [if_neg (by omega), if_pos (by omega)]
    apply ret_ []
    apply retAt_ [.all 0] (.t []) [rRow (l.set d.a.toNat ((l.getD d.a.toNat default + l.getD d.b.toNat default).tmod 100))] rfl rfl
    · trivial
    · exact ⟨⟨trivial, rfl, rfl, rfl, setLeJ (fun _ x => eI x) hl (fun _ _ _ => ⟨rfl, trivial⟩) ⟨rfl, trivial⟩⟩, trivial⟩
    · exact ⟨rfl, rfl⟩
  · rw [if_neg (by omega), if_neg (by omega)]
    apply ret_ []
    apply retAt_ [.all 0] (.t []) [rRow l] rfl rfl
    · trivial
    · exact ⟨⟨trivial, rfl, rfl, rfl, fun _ _ => ⟨rfl, trivial⟩⟩, trivial⟩
    · exact ⟨rfl, rfl⟩
theorem callx_l2Reg {al0 : Lim} {s0 : St} {as0 : List Operand} {d0 : Option Tmp} {K0 : St → Prop} {l : List Int} {d : Deed} (ρ : List Sel) (cok_ : CallOK prog 124 [.c (.s ⟨0, 0⟩ 3), .a (eDeed d)] [rRow l] (fun r os => os = [rRow (regF l d)] ∧ r = .t [])) (cn_ : nodupB (keysOf ρ) = true) (ca_ : tvsLe ρ s0.loc.length (as0.map (ev s0)) [.c (.s ⟨0, 0⟩ 3), .a (eDeed d)]) (co_ : locLe ρ s0.loc.length s0.loc s0.fz ρ [rRow l]) (cl_ : limP al0 s0.loc ρ True) (ck_ : placesK s0.loc ρ ([rRow (regF l d)].map (AObj.up ρ s0.loc.length)) fun loc' => s0.afterK loc' d0 ((.t [] : TV).up ρ s0.loc.length) K0) : CallAt prog al0 s0 124 as0 d0 K0 :=
  callB ρ cok_ cn_ ca_ co_ cl_ (by rintro r os ⟨rfl, rfl⟩; exact ck_ )
theorem call_l2Reg {al0 : Lim} {s0 : St} {as0 : List Operand} {d0 : Option Tmp} {K0 : St → Prop} {l : List Int} {d : Deed} (ρ : List Sel) (hl : l.length = 3) (hx : ∀ j, j < 3 → 0 ≤ l.getD j default ∧ l.getD j default ≤ 99) (hd : (d.kind = 3 ∨ d.kind = 4) → 0 ≤ d.a ∧ d.a ≤ 2) (hd4 : d.kind = 4 → 0 ≤ d.b ∧ d.b ≤ 2) (cn_ : nodupB (keysOf ρ) = true) (ca_ : tvsLe ρ s0.loc.length (as0.map (ev s0)) [.c (.s ⟨0, 0⟩ 3), .a (eDeed d)]) (co_ : locLe ρ s0.loc.length s0.loc s0.fz ρ [rRow l]) (cl_ : limP al0 s0.loc ρ True) (ck_ : placesK s0.loc ρ ([rRow (regF l d)].map (AObj.up ρ s0.loc.length)) fun loc' => s0.afterK loc' d0 ((.t [] : TV).up ρ s0.loc.length) K0) : CallAt prog al0 s0 124 as0 d0 K0 :=
  callx_l2Reg ρ (l2Reg_ok l d hl hx hd hd4) cn_ ca_ co_ cl_ ck_
end Go.Proofs.AYT
namespace Go.Proofs.AYT
open Go Go.Proofs.AY Go.Proofs.Try
/-- Rows do not tell of registers. -/
theorem idSet {ρ : List Sel} {N : Nat} {fz : List (Nat × CV)} {ts : List Task} {t nt r r' : Nat} {x : Task} (hn : ts.length = nt) (hle : ∀ j, cvLe ρ N (.s ⟨r, j⟩ 3) (.s ⟨r', j⟩ 3)) (hres : ∀ j, (CV.s ⟨r, j⟩ 3).res fz = .s ⟨r, j⟩ 3) (hx : eTaskO x r' t = eTaskO (ts.getD t default) r' t) :
    ∀ j, j < nt → cvsLe ρ N (resL fz (eTaskO (ts.getD j default) r j)) (eTaskO ((ts.set t x).getD j default) r' j) := by
  intro j hj
  have e : eTaskO ((ts.set t x).getD j default) r' j = eTaskO (ts.getD j default) r' j := by
    rw [getD_set _ _ _ _ _ (by omega)]
    by_cases h : j = t
    · rw [if_pos h, h]; exact hx
    · rw [if_neg h]
  rw [e]
  have hid : ∀ y : CV, CV.immB y = true → cvLe ρ N y y := fun y hy => by
    cases y with
    | v u => exact rfl
    | d sz n f => exact ⟨rfl, rfl, fun _ _ => rfl⟩
    | p => cases hy
    | s => cases hy
  unfold resL
  split
  · exact ⟨rfl, rfl, rfl, hle j, rfl, rfl, rfl, rfl, ⟨rfl, rfl, fun _ _ => rfl⟩, ⟨rfl, rfl, fun _ _ => rfl⟩, ⟨rfl, rfl, fun _ _ => rfl⟩, rfl, rfl, trivial⟩
  · refine ⟨rfl, rfl, rfl, ?_, rfl, rfl, rfl, rfl, ⟨rfl, rfl, fun _ _ => rfl⟩, ⟨rfl, rfl, fun _ _ => rfl⟩, ⟨rfl, rfl, fun _ _ => rfl⟩, rfl, rfl, trivial⟩
    rw [hres j]; exact hle j
def plans122 : Plans := [(6, ⟨.take 0 false (.take 1 false (.take 2 false (.take 3 false (.take 5 false (.take 9 false (.take 11 false (.take 13 false (.take 4 true (.take 6 false (.take 7 false (.take 8 true (.take 10 true (.take 12 true (.take 14 false (.take 15 false (.take 16 true (.take 17 false (.alt 18 .done .done)))))))))))))))))), [18], []⟩),
  (3, ⟨.take 0 false (.take 1 false (.take 2 false (.take 3 false (.take 5 false (.take 9 false (.take 11 false (.take 12 false (.take 13 false (.take 14 false (.take 16 false (.take 4 true (.take 6 false (.take 7 false (.take 8 true (.take 10 true (.take 15 true (.take 17 true (.take 18 false (.take 19 false (.take 20 true (.take 21 false (.alt 22 .done .done)))))))))))))))))))))), [22], []⟩),
  (4, ⟨.take 0 false (.take 1 false (.take 2 false (.take 3 false (.take 5 false (.take 6 false (.take 8 false (.take 10 false (.take 11 false (.take 12 false (.take 13 false (.take 15 false (.take 4 true (.take 7 true (.take 9 true (.take 14 true (.take 16 true (.take 17 false (.take 18 false (.take 19 true (.take 20 false (.alt 21 (.take 22 false (.take 23 false (.alt 24 .done .done))) .done))))))))))))))))))))), [24], []⟩),
  (9, ⟨.take 0 false (.take 1 false (.take 2 false (.take 3 false (.take 5 false (.take 6 false (.take 4 true (.take 7 true (.take 8 false (.take 9 false (.take 10 false (.alt 11 .done .done))))))))))), [11], []⟩)]
theorem plans122_ok : plansOk plans122 (bodyOf f122) = true := by kernel_rfl
theorem load_ok (p : DProg) (s : DSys) (nc nt nl t : Nat) (d : Deed) (hc : s.cells.length = nc) (hn : s.tasks.length = nt) (ht : t < nt) (ho : (tk s t).old.length = 3) (hr : (tk s t).regs.length = 3) (hat : 0 ≤ (tk s t).at_ ∧ (tk s t).at_ ≤ 1000000) (hrd : (tk s t).reads.length ≤ 1000000) (hda : 0 ≤ d.a ∧ d.a ≤ 2) (hdb : 0 ≤ d.b ∧ d.b < nc) : CallOK prog 122 [ptr 0, int t, .a (eDeed d)] [wB p s nc nt nl 1 2 3, wC s nc, wT s nt 4, wL s nl, wR s nt] (fun r os => os = [wB p (loadS s t d) nc nt nl 5 6 7, .dead, .dead, .dead, .dead, wC (loadS s t d) nc, wT (loadS s t d) nt 8, wL (loadS s t d) nl, wR (loadS s t d) nt] ∧ r = .t []) := by
  have hat' : 0 ≤ (s.tasks.getD t default).at_ ∧ (s.tasks.getD t default).at_ ≤ 1000000 := hat
  have hf := findP_lt (l := (s.tasks.getD t default).puts) (c := d.b)
  have hfb := findP_b (s.tasks.getD t default).puts d.b
  refine fn_ [9] tab_ok hmo func122 rfl rfl plans122_ok rfl ?_
  repeat' ((conv => whnf); first | (refine And.intro ?_ ?_) | (intro _) | (apply call0_ (g := 69); refine call_l11Find []  rfl ⟨⟨rfl, rfl, fun _ _ => rfl⟩, rfl, trivial⟩ trivial (by first | exact trivial | exact ⟨trivial, trivial⟩) ?_))
  all_goals (try simp only [Int.toNat_natCast] at *)
  all_goals first | omega | skip
  apply cut_ (fun S : DSys => setT S t { tk S t with at_ := (tk s t).at_ + 1 } = loadS s t d ∧ S.tasks.length = nt) (fun S : DSys => (⟨108, [(0, ptr 0), (1, int t), (6, ptr 5)], [wB p S nc nt nl 1 2 3, wC S nc, wT S nt 4, wL S nl, wR S nt, .box 49 (eTaskO (tk s t) 4 t)], []⟩ : St))
  · repeat' ((conv => whnf); first | (refine And.intro ?_ ?_) | (intro _) | (apply call0_ (g := 125); refine call_blind [.all 0, .all 1, .all 2, .all 3, .all 4] hc hn ht hdb rfl ⟨rfl, rfl, rfl, trivial⟩ ⟨⟨trivial, rfl, ⟨rfl, rfl, fun _ _ => rfl⟩, ⟨rfl, rfl, fun _ _ => rfl⟩, rfl, rfl, rfl, rfl, trivial⟩, ⟨trivial, rfl, rfl, rfl, fun _ _ => ⟨rfl, rfl, rfl, trivial⟩⟩, ⟨trivial, rfl, rfl, rfl, fun _ _ => ⟨rfl, rfl, rfl, rfl, rfl, rfl, rfl, rfl, ⟨rfl, rfl, fun _ _ => rfl⟩, ⟨rfl, rfl, fun _ _ => rfl⟩, ⟨rfl, rfl, fun _ _ => rfl⟩, rfl, rfl, trivial⟩⟩, ⟨trivial, rfl, rfl, rfl, fun _ _ => ⟨rfl, rfl, rfl, ⟨rfl, rfl, fun _ _ => rfl⟩, ⟨rfl, rfl, fun _ _ => rfl⟩, rfl, trivial⟩⟩, ⟨trivial, fun _ hi => ⟨hi, rfl, rfl, rfl, fun _ _ => ⟨rfl, trivial⟩⟩⟩, trivial⟩ (by first | exact trivial | exact ⟨⟨rfl, Nat.le_refl _, trivial⟩, trivial⟩ | exact ⟨⟨rfl, trivial, ⟨rfl, trivial, ⟨rfl, trivial, ⟨rfl, trivial, ⟨rfl, trivial, trivial⟩⟩⟩⟩⟩, trivial⟩) ?_ ?_) | (apply call0_ (g := 120); refine call_again [.all 0, .all 1, .all 2, .all 3, .all 4] hc hn ht ho rfl ⟨rfl, rfl, trivial⟩ ⟨⟨trivial, rfl, ⟨rfl, rfl, fun _ _ => rfl⟩, ⟨rfl, rfl, fun _ _ => rfl⟩, rfl, rfl, rfl, rfl, trivial⟩, ⟨trivial, rfl, rfl, rfl, fun _ _ => ⟨rfl, rfl, rfl, trivial⟩⟩, ⟨trivial, rfl, rfl, rfl, fun _ _ => ⟨rfl, rfl, rfl, rfl, rfl, rfl, rfl, rfl, ⟨rfl, rfl, fun _ _ => rfl⟩, ⟨rfl, rfl, fun _ _ => rfl⟩, ⟨rfl, rfl, fun _ _ => rfl⟩, rfl, rfl, trivial⟩⟩, ⟨trivial, rfl, rfl, rfl, fun _ _ => ⟨rfl, rfl, rfl, ⟨rfl, rfl, fun _ _ => rfl⟩, ⟨rfl, rfl, fun _ _ => rfl⟩, rfl, trivial⟩⟩, ⟨trivial, fun _ hi => ⟨hi, rfl, rfl, rfl, fun _ _ => ⟨rfl, trivial⟩⟩⟩, trivial⟩ (by first | exact trivial | exact ⟨⟨rfl, Nat.le_refl _, trivial⟩, trivial⟩ | exact ⟨⟨rfl, trivial, ⟨rfl, trivial, ⟨rfl, trivial, ⟨rfl, trivial, ⟨rfl, trivial, trivial⟩⟩⟩⟩⟩, trivial⟩) ?_) | (apply call0_ (g := 123); refine call_l11Add [] (l := (tk s t).reads) (x := ⟨d.b, (s.cells.getD d.b.toNat default).num⟩) (by omega) rfl ⟨⟨rfl, rfl, fun _ _ => rfl⟩, ⟨rfl, rfl, trivial⟩, trivial⟩ trivial (by first | exact trivial | exact ⟨trivial, trivial⟩) ?_))
    all_goals (try simp only [Int.toNat_natCast] at *)
    all_goals first | omega | skip
    · rename_i hx
      (apply to_ []; apply toAt_ [.all 0, .all 1, .all 2, .all 3, .all 4, .all 6] (setT s t { tk s t with regs := (tk s t).regs.set d.a.toNat ((tk s t).puts.getD (findP (tk s t).puts d.b).toNat default).num }); rotate_left 1; exact ⟨rfl, rfl, rfl, rfl, ⟨rfl, rfl, rfl, trivial⟩, ⟨trivial, rfl, ⟨rfl, rfl, fun _ _ => rfl⟩, ⟨rfl, rfl, fun _ _ => rfl⟩, rfl, rfl, rfl, rfl, trivial⟩, ⟨trivial, rfl, rfl, rfl, fun _ _ => ⟨rfl, rfl, rfl, trivial⟩⟩, ⟨trivial, rfl, rfl, rfl, idSet hn (fun _ => rfl) (fun _ => rfl) rfl⟩, ⟨trivial, rfl, rfl, rfl, fun _ _ => ⟨rfl, rfl, rfl, ⟨rfl, rfl, fun _ _ => rfl⟩, ⟨rfl, rfl, fun _ _ => rfl⟩, rfl, trivial⟩⟩, ⟨trivial, fun i hi => ⟨hi, rfl, rfl, rfl, famLe hn hr rfl i hi⟩⟩, ⟨trivial, rfl, rfl, rfl, rfl, rfl, rfl, rfl, rfl, rfl, ⟨rfl, rfl, fun _ _ => rfl⟩, ⟨rfl, rfl, fun _ _ => rfl⟩, ⟨rfl, rfl, fun _ _ => rfl⟩, rfl, rfl, trivial⟩, trivial⟩)
      refine ⟨?_, by rw [setT_len]; exact hn⟩
      rw [tk_setT (by omega), setT_setT]
      unfold loadS
      rw [if_pos hx]
    · rename_i hx hy
      unfold loadS
      rw [if_neg hx, if_pos hy]
      apply ret_ []
      apply retAt_ [.all 0, .gone 1, .gone 2, .gone 3, .gone 4, .all 7, .all 8, .all 9, .all 10] (.t []) [wB p (againS s t) nc nt nl 5 6 7, .dead, .dead, .dead, .dead, wC (againS s t) nc, wT (againS s t) nt 8, wL (againS s t) nl, wR (againS s t) nt] rfl rfl
      · trivial
      · exact ⟨⟨trivial, rfl, ⟨rfl, rfl, fun _ _ => rfl⟩, ⟨rfl, rfl, fun _ _ => rfl⟩, rfl, rfl, rfl, rfl, trivial⟩, trivial, trivial, trivial, trivial, ⟨trivial, rfl, rfl, rfl, fun _ _ => ⟨rfl, rfl, rfl, trivial⟩⟩, ⟨trivial, rfl, rfl, rfl, fun _ _ => ⟨rfl, rfl, rfl, rfl, rfl, rfl, rfl, rfl, ⟨rfl, rfl, fun _ _ => rfl⟩, ⟨rfl, rfl, fun _ _ => rfl⟩, ⟨rfl, rfl, fun _ _ => rfl⟩, rfl, rfl, trivial⟩⟩, ⟨trivial, rfl, rfl, rfl, fun _ _ => ⟨rfl, rfl, rfl, ⟨rfl, rfl, fun _ _ => rfl⟩, ⟨rfl, rfl, fun _ _ => rfl⟩, rfl, trivial⟩⟩, ⟨trivial, fun _ hi => ⟨hi, rfl, rfl, rfl, fun _ _ => ⟨rfl, trivial⟩⟩⟩, trivial⟩
      · exact ⟨rfl, rfl⟩
    · rename_i hx hy
      (apply to_ []; apply toAt_ [.all 0, .all 1, .all 2, .all 3, .all 4, .all 6] (setT s t { tk s t with regs := (tk s t).regs.set d.a.toNat (s.cells.getD d.b.toNat default).num, reads := addP (tk s t).reads ⟨d.b, (s.cells.getD d.b.toNat default).num⟩ }); rotate_left 1; exact ⟨rfl, rfl, rfl, rfl, ⟨rfl, rfl, rfl, trivial⟩, ⟨trivial, rfl, ⟨rfl, rfl, fun _ _ => rfl⟩, ⟨rfl, rfl, fun _ _ => rfl⟩, rfl, rfl, rfl, rfl, trivial⟩, ⟨trivial, rfl, rfl, rfl, fun _ _ => ⟨rfl, rfl, rfl, trivial⟩⟩, ⟨trivial, rfl, rfl, rfl, setLeJ (fun j x => eTaskO x 4 j) hn (fun _ _ _ => ⟨rfl, rfl, rfl, rfl, rfl, rfl, rfl, rfl, ⟨rfl, rfl, fun _ _ => rfl⟩, ⟨rfl, rfl, fun _ _ => rfl⟩, ⟨rfl, rfl, fun _ _ => rfl⟩, rfl, rfl, trivial⟩) ⟨rfl, rfl, rfl, rfl, rfl, rfl, rfl, rfl, ⟨rfl, rfl, fun _ _ => rfl⟩, ⟨rfl, rfl, fun _ _ => rfl⟩, ⟨rfl, rfl, fun _ _ => rfl⟩, rfl, rfl, trivial⟩⟩, ⟨trivial, rfl, rfl, rfl, fun _ _ => ⟨rfl, rfl, rfl, ⟨rfl, rfl, fun _ _ => rfl⟩, ⟨rfl, rfl, fun _ _ => rfl⟩, rfl, trivial⟩⟩, ⟨trivial, fun i hi => ⟨hi, rfl, rfl, rfl, famLe hn hr rfl i hi⟩⟩, ⟨trivial, rfl, rfl, rfl, rfl, rfl, rfl, rfl, rfl, rfl, ⟨rfl, rfl, fun _ _ => rfl⟩, ⟨rfl, rfl, fun _ _ => rfl⟩, ⟨rfl, rfl, fun _ _ => rfl⟩, rfl, rfl, trivial⟩, trivial⟩)
      refine ⟨?_, by rw [setT_len]; exact hn⟩
      rw [tk_setT (by omega), setT_setT]
      unfold loadS
      rw [if_neg hx, if_neg hy]
  · rintro S ⟨e1, e2⟩
    have hR5 : wR (setT S t { tk S t with at_ := (tk s t).at_ + 1 }) nt = wR S nt := wR_set rfl
    rw [← e1]
    repeat' ((conv => whnf); first | (refine And.intro ?_ ?_) | (intro _))
    all_goals (try simp only [Int.toNat_natCast] at *)
    all_goals first | omega | skip
    apply ret_ []
    apply retAt_ [.all 0, .gone 1, .gone 2, .gone 3, .gone 4, .all 1, .all 2, .all 3, .all 4] (.t []) [wB p S nc nt nl 5 6 7, .dead, .dead, .dead, .dead, wC S nc, wT (setT S t { tk S t with at_ := (tk s t).at_ + 1 }) nt 8, wL S nl, wR S nt] rfl rfl
    · trivial
    · exact ⟨⟨trivial, rfl, ⟨rfl, rfl, fun _ _ => rfl⟩, ⟨rfl, rfl, fun _ _ => rfl⟩, rfl, rfl, rfl, rfl, trivial⟩, trivial, trivial, trivial, trivial, ⟨trivial, rfl, rfl, rfl, fun _ _ => ⟨rfl, rfl, rfl, trivial⟩⟩, ⟨trivial, rfl, rfl, rfl, setLeJ (fun j x => eTaskO x 8 j) e2 (fun _ _ _ => ⟨rfl, rfl, rfl, rfl, rfl, rfl, rfl, rfl, ⟨rfl, rfl, fun _ _ => rfl⟩, ⟨rfl, rfl, fun _ _ => rfl⟩, ⟨rfl, rfl, fun _ _ => rfl⟩, rfl, rfl, trivial⟩) ⟨rfl, rfl, rfl, rfl, rfl, rfl, rfl, rfl, ⟨rfl, rfl, fun _ _ => rfl⟩, ⟨rfl, rfl, fun _ _ => rfl⟩, ⟨rfl, rfl, fun _ _ => rfl⟩, rfl, rfl, trivial⟩⟩, ⟨trivial, rfl, rfl, rfl, fun _ _ => ⟨rfl, rfl, rfl, ⟨rfl, rfl, fun _ _ => rfl⟩, ⟨rfl, rfl, fun _ _ => rfl⟩, rfl, trivial⟩⟩, ⟨trivial, fun _ hi => ⟨hi, rfl, rfl, rfl, fun _ _ => ⟨rfl, trivial⟩⟩⟩, trivial⟩
    · exact ⟨by rw [hR5]; rfl, rfl⟩
theorem callx_load {al0 : Lim} {s0 : St} {as0 : List Operand} {d0 : Option Tmp} {K0 : St → Prop} {p : DProg} {s : DSys} {nc nt nl t : Nat} {d : Deed} (ρ : List Sel) (cok_ : CallOK prog 122 [ptr 0, int t, .a (eDeed d)] [wB p s nc nt nl 1 2 3, wC s nc, wT s nt 4, wL s nl, wR s nt] (fun r os => os = [wB p (loadS s t d) nc nt nl 5 6 7, .dead, .dead, .dead, .dead, wC (loadS s t d) nc, wT (loadS s t d) nt 8, wL (loadS s t d) nl, wR (loadS s t d) nt] ∧ r = .t [])) (cn_ : nodupB (keysOf ρ) = true) (ca_ : tvsLe ρ s0.loc.length (as0.map (ev s0)) [ptr 0, int t, .a (eDeed d)]) (co_ : locLe ρ s0.loc.length s0.loc s0.fz ρ [wB p s nc nt nl 1 2 3, wC s nc, wT s nt 4, wL s nl, wR s nt]) (cl_ : limP al0 s0.loc ρ True) (ck_ : placesK s0.loc ρ ([wB p (loadS s t d) nc nt nl 5 6 7, .dead, .dead, .dead, .dead, wC (loadS s t d) nc, wT (loadS s t d) nt 8, wL (loadS s t d) nl, wR (loadS s t d) nt].map (AObj.up ρ s0.loc.length)) fun loc' => s0.afterK loc' d0 ((.t [] : TV).up ρ s0.loc.length) K0) : CallAt prog al0 s0 122 as0 d0 K0 :=
  callB ρ cok_ cn_ ca_ co_ cl_ (by rintro r os ⟨rfl, rfl⟩; exact ck_ )
theorem call_load {al0 : Lim} {s0 : St} {as0 : List Operand} {d0 : Option Tmp} {K0 : St → Prop} {p : DProg} {s : DSys} {nc nt nl t : Nat} {d : Deed} (ρ : List Sel) (hc : s.cells.length = nc) (hn : s.tasks.length = nt) (ht : t < nt) (ho : (tk s t).old.length = 3) (hr : (tk s t).regs.length = 3) (hat : 0 ≤ (tk s t).at_ ∧ (tk s t).at_ ≤ 1000000) (hrd : (tk s t).reads.length ≤ 1000000) (hda : 0 ≤ d.a ∧ d.a ≤ 2) (hdb : 0 ≤ d.b ∧ d.b < nc) (cn_ : nodupB (keysOf ρ) = true) (ca_ : tvsLe ρ s0.loc.length (as0.map (ev s0)) [ptr 0, int t, .a (eDeed d)]) (co_ : locLe ρ s0.loc.length s0.loc s0.fz ρ [wB p s nc nt nl 1 2 3, wC s nc, wT s nt 4, wL s nl, wR s nt]) (cl_ : limP al0 s0.loc ρ True) (ck_ : placesK s0.loc ρ ([wB p (loadS s t d) nc nt nl 5 6 7, .dead, .dead, .dead, .dead, wC (loadS s t d) nc, wT (loadS s t d) nt 8, wL (loadS s t d) nl, wR (loadS s t d) nt].map (AObj.up ρ s0.loc.length)) fun loc' => s0.afterK loc' d0 ((.t [] : TV).up ρ s0.loc.length) K0) : CallAt prog al0 s0 122 as0 d0 K0 :=
  callx_load ρ (load_ok p s nc nt nl t d hc hn ht ho hr hat hrd hda hdb) cn_ ca_ co_ cl_ ck_
end Go.Proofs.AYT
namespace Go.Proofs.AYT
open Go Go.Proofs.AY Go.Proofs.Try
def plans113 : Plans := [(11, ⟨.take 0 false (.take 1 false (.take 2 false (.take 3 false (.take 5 false (.take 6 false (.take 8 false (.take 10 false (.take 12 false (.take 4 true (.take 7 true (.take 9 true (.take 11 true (.take 13 true (.take 14 false (.take 15 true (.take 16 false (.alt 17 (.take 18 false (.take 19 false (.alt 20 .done .done))) .done))))))))))))))))), [20], []⟩),
  (7, ⟨.take 0 false (.take 1 false (.take 2 false (.take 3 false (.take 5 false (.take 4 true (.take 6 false (.take 7 false (.take 8 true (.take 9 true (.alt 10 .done .done)))))))))), [], [4]⟩),
  (17, ⟨.take 0 false (.take 1 false (.take 2 false (.take 3 false (.take 5 false (.take 6 false (.take 4 true (.take 7 true (.take 8 false (.take 9 false (.take 10 false (.alt 11 .done .done))))))))))), [11], []⟩)]
theorem plans113_ok : plansOk plans113 (bodyOf f113) = true := by kernel_rfl
theorem deed_ok (p : DProg) (s : DSys) (nc nt nl t : Nat) (ds : List Deed) (hc : s.cells.length = nc) (hn : s.tasks.length = nt) (hl : s.log.length = nl) (ht : t < nt) (ho : (tk s t).old.length = 3) (hr : (tk s t).regs.length = 3) (hx : ∀ j, j < 3 → 0 ≤ (tk s t).regs.getD j default ∧ (tk s t).regs.getD j default ≤ 99) (hat : 0 ≤ (tk s t).at_ ∧ (tk s t).at_ ≤ 1000000) (hrd : (tk s t).reads.length ≤ 1000000) (hpt : (tk s t).puts.length ≤ 1000000) (hpc : 0 ≤ (tk s t).pc ∧ (tk s t).pc ≤ 1000000) (hsi : 0 ≤ (tk s t).since ∧ (tk s t).since ≤ 1000000) (hnl : nl ≤ 1000000000) (hd : (tk s t).at_ < ds.length → deedP (ds.getD (tk s t).at_.toNat default) nc) : CallOK prog 113 [ptr 0, int t, lst 3 eDeed ds] [wB p s nc nt nl 1 2 3, wC s nc, wT s nt 4, wL s nl, wR s nt] (fun r os => os = [wB p (deedS s t ds) nc nt (deedS s t ds).log.length 5 6 7, .dead, .dead, .dead, .dead, wC (deedS s t ds) nc, wT (deedS s t ds) nt 8, wL (deedS s t ds) (deedS s t ds).log.length, wR (deedS s t ds) nt] ∧ r = .t []) := by
  have hat' : 0 ≤ (s.tasks.getD t default).at_ ∧ (s.tasks.getD t default).at_ ≤ 1000000 := hat
  have hsi' : 0 ≤ (s.tasks.getD t default).since ∧ (s.tasks.getD t default).since ≤ 1000000 := hsi
  obtain ⟨d, hd0⟩ : ∃ d, d = ds.getD (s.tasks.getD t default).at_.toNat default := ⟨_, rfl⟩
  have hd' : (s.tasks.getD t default).at_ < ds.length → deedP d nc := by rw [hd0]; exact hd
  refine fn_ [17] tab_ok hmo func113 rfl rfl plans113_ok rfl ?_
  repeat' ((conv => whnf); first | (refine And.intro ?_ ?_) | (intro _) | (apply call0_ (g := 121); refine call_end_ [.all 0, .all 1, .all 2, .all 3, .all 4] hn hl ht hpc hrd hpt hnl rfl ⟨rfl, rfl, rfl, trivial⟩ ⟨⟨trivial, rfl, ⟨rfl, rfl, fun _ _ => rfl⟩, ⟨rfl, rfl, fun _ _ => rfl⟩, rfl, rfl, rfl, rfl, trivial⟩, ⟨trivial, rfl, rfl, rfl, fun _ _ => ⟨rfl, rfl, rfl, trivial⟩⟩, ⟨trivial, rfl, rfl, rfl, fun _ _ => ⟨rfl, rfl, rfl, rfl, rfl, rfl, rfl, rfl, ⟨rfl, rfl, fun _ _ => rfl⟩, ⟨rfl, rfl, fun _ _ => rfl⟩, ⟨rfl, rfl, fun _ _ => rfl⟩, rfl, rfl, trivial⟩⟩, ⟨trivial, rfl, rfl, rfl, fun _ _ => ⟨rfl, rfl, rfl, ⟨rfl, rfl, fun _ _ => rfl⟩, ⟨rfl, rfl, fun _ _ => rfl⟩, rfl, trivial⟩⟩, ⟨trivial, fun _ hi => ⟨hi, rfl, rfl, rfl, fun _ _ => ⟨rfl, trivial⟩⟩⟩, trivial⟩ (by first | exact trivial | exact ⟨⟨rfl, Nat.le_refl _, trivial⟩, trivial⟩ | exact ⟨⟨rfl, trivial, ⟨rfl, trivial, ⟨rfl, trivial, ⟨rfl, trivial, ⟨rfl, trivial, trivial⟩⟩⟩⟩⟩, trivial⟩) ?_) | (apply call0_ (g := 115); refine call_stage [.all 0, .all 1, .all 2, .all 3, .all 4] hn ht rfl ⟨rfl, rfl, rfl, trivial⟩ ⟨⟨trivial, rfl, ⟨rfl, rfl, fun _ _ => rfl⟩, ⟨rfl, rfl, fun _ _ => rfl⟩, rfl, rfl, rfl, rfl, trivial⟩, ⟨trivial, rfl, rfl, rfl, fun _ _ => ⟨rfl, rfl, rfl, trivial⟩⟩, ⟨trivial, rfl, rfl, rfl, fun _ _ => ⟨rfl, rfl, rfl, rfl, rfl, rfl, rfl, rfl, ⟨rfl, rfl, fun _ _ => rfl⟩, ⟨rfl, rfl, fun _ _ => rfl⟩, ⟨rfl, rfl, fun _ _ => rfl⟩, rfl, rfl, trivial⟩⟩, ⟨trivial, rfl, rfl, rfl, fun _ _ => ⟨rfl, rfl, rfl, ⟨rfl, rfl, fun _ _ => rfl⟩, ⟨rfl, rfl, fun _ _ => rfl⟩, rfl, trivial⟩⟩, ⟨trivial, fun _ hi => ⟨hi, rfl, rfl, rfl, fun _ _ => ⟨rfl, trivial⟩⟩⟩, trivial⟩ (by first | exact trivial | exact ⟨⟨rfl, Nat.le_refl _, trivial⟩, trivial⟩ | exact ⟨⟨rfl, trivial, ⟨rfl, trivial, ⟨rfl, trivial, ⟨rfl, trivial, ⟨rfl, trivial, trivial⟩⟩⟩⟩⟩, trivial⟩) ?_))
  all_goals (try simp only [Int.toNat_natCast] at *)
  all_goals first | omega | skip
  · rename_i h1 _ h2
    have e : deedS s t ds = endS s t (tk s t).since := by simp only [deedS]; rw [if_pos h1, if_pos h2]
    have hle : (endS s t (tk s t).since).log.length = nl + 1 := by simp [endS, setT, logS, hl]
    rw [e, hle]
    apply ret_ []
    apply retAt_ [.all 0, .gone 1, .gone 2, .gone 3, .gone 4, .all 6, .all 7, .all 8, .all 9] (.t []) [wB p (endS s t (tk s t).since) nc nt (nl + 1) 5 6 7, .dead, .dead, .dead, .dead, wC (endS s t (tk s t).since) nc, wT (endS s t (tk s t).since) nt 8, wL (endS s t (tk s t).since) (nl + 1), wR (endS s t (tk s t).since) nt] rfl rfl
    · trivial
    · exact ⟨⟨trivial, rfl, ⟨rfl, rfl, fun _ _ => rfl⟩, ⟨rfl, rfl, fun _ _ => rfl⟩, rfl, rfl, rfl, rfl, trivial⟩, trivial, trivial, trivial, trivial, ⟨trivial, rfl, rfl, rfl, fun _ _ => ⟨rfl, rfl, rfl, trivial⟩⟩, ⟨trivial, rfl, rfl, rfl, fun _ _ => ⟨rfl, rfl, rfl, rfl, rfl, rfl, rfl, rfl, ⟨rfl, rfl, fun _ _ => rfl⟩, ⟨rfl, rfl, fun _ _ => rfl⟩, ⟨rfl, rfl, fun _ _ => rfl⟩, rfl, rfl, trivial⟩⟩, ⟨trivial, rfl, rfl, rfl, fun _ _ => ⟨rfl, rfl, rfl, ⟨rfl, rfl, fun _ _ => rfl⟩, ⟨rfl, rfl, fun _ _ => rfl⟩, rfl, trivial⟩⟩, ⟨trivial, fun _ hi => ⟨hi, rfl, rfl, rfl, fun _ _ => ⟨rfl, trivial⟩⟩⟩, trivial⟩
    · exact ⟨rfl, rfl⟩
  · rename_i h1 _ h2
    have e : deedS s t ds = setT s t { tk s t with stage := 2, at_ := 0 } := by simp only [deedS]; rw [if_pos h1, if_neg h2]
    have hR5 : wR (setT s t { tk s t with stage := 2, at_ := 0 }) nt = wR s nt := wR_set rfl
    have hle : (setT s t { tk s t with stage := 2, at_ := 0 }).log.length = nl := hl
    rw [e, hle]
    apply ret_ []
    apply retAt_ [.all 0, .gone 1, .gone 2, .gone 3, .gone 4, .all 1, .all 2, .all 3, .all 4] (.t []) [wB p s nc nt nl 5 6 7, .dead, .dead, .dead, .dead, wC s nc, wT (setT s t { tk s t with stage := 2, at_ := 0 }) nt 8, wL s nl, wR s nt] rfl rfl
    · trivial
    · exact ⟨⟨trivial, rfl, ⟨rfl, rfl, fun _ _ => rfl⟩, ⟨rfl, rfl, fun _ _ => rfl⟩, rfl, rfl, rfl, rfl, trivial⟩, trivial, trivial, trivial, trivial, ⟨trivial, rfl, rfl, rfl, fun _ _ => ⟨rfl, rfl, rfl, trivial⟩⟩, ⟨trivial, rfl, rfl, rfl, fun _ _ => ⟨rfl, rfl, rfl, rfl, rfl, rfl, rfl, rfl, ⟨rfl, rfl, fun _ _ => rfl⟩, ⟨rfl, rfl, fun _ _ => rfl⟩, ⟨rfl, rfl, fun _ _ => rfl⟩, rfl, rfl, trivial⟩⟩, ⟨trivial, rfl, rfl, rfl, fun _ _ => ⟨rfl, rfl, rfl, ⟨rfl, rfl, fun _ _ => rfl⟩, ⟨rfl, rfl, fun _ _ => rfl⟩, rfl, trivial⟩⟩, ⟨trivial, fun _ hi => ⟨hi, rfl, rfl, rfl, fun _ _ => ⟨rfl, trivial⟩⟩⟩, trivial⟩
    · exact ⟨by rw [hR5]; rfl, rfl⟩
  · rename_i h1
    subst hd0
    have hd2 := hd' (by omega)
    apply cut_ (fun S : DSys => setT S t { tk S t with at_ := (tk s t).at_ + 1 } = deedS s t ds ∧ S.tasks.length = nt ∧ S.log.length = nl) (fun S : DSys => (⟨115, [(0, ptr 0), (1, int t), (6, ptr 5)], [wB p S nc nt nl 1 2 3, wC S nc, wT S nt 4, wL S nl, wR S nt, .box 49 (eTaskO (tk s t) 4 t)], []⟩ : St))
    · repeat' ((conv => whnf); first | (refine And.intro ?_ ?_) | (intro _) | (apply call0_ (g := 122); refine call_load [.all 0, .all 1, .all 2, .all 3, .all 4] (d := ds.getD (s.tasks.getD t default).at_.toNat default) hc hn ht ho hr hat hrd (by omega) (by omega) rfl ⟨rfl, rfl, ⟨rfl, rfl, rfl, trivial⟩, trivial⟩ ⟨⟨trivial, rfl, ⟨rfl, rfl, fun _ _ => rfl⟩, ⟨rfl, rfl, fun _ _ => rfl⟩, rfl, rfl, rfl, rfl, trivial⟩, ⟨trivial, rfl, rfl, rfl, fun _ _ => ⟨rfl, rfl, rfl, trivial⟩⟩, ⟨trivial, rfl, rfl, rfl, fun _ _ => ⟨rfl, rfl, rfl, rfl, rfl, rfl, rfl, rfl, ⟨rfl, rfl, fun _ _ => rfl⟩, ⟨rfl, rfl, fun _ _ => rfl⟩, ⟨rfl, rfl, fun _ _ => rfl⟩, rfl, rfl, trivial⟩⟩, ⟨trivial, rfl, rfl, rfl, fun _ _ => ⟨rfl, rfl, rfl, ⟨rfl, rfl, fun _ _ => rfl⟩, ⟨rfl, rfl, fun _ _ => rfl⟩, rfl, trivial⟩⟩, ⟨trivial, fun _ hi => ⟨hi, rfl, rfl, rfl, fun _ _ => ⟨rfl, trivial⟩⟩⟩, trivial⟩ (by first | exact trivial | exact ⟨⟨rfl, Nat.le_refl _, trivial⟩, trivial⟩ | exact ⟨⟨rfl, trivial, ⟨rfl, trivial, ⟨rfl, trivial, ⟨rfl, trivial, ⟨rfl, trivial, trivial⟩⟩⟩⟩⟩, trivial⟩) ?_) | (apply call0_ (g := 120); refine call_again [.all 0, .all 1, .all 2, .all 3, .all 4] hc hn ht ho rfl ⟨rfl, rfl, trivial⟩ ⟨⟨trivial, rfl, ⟨rfl, rfl, fun _ _ => rfl⟩, ⟨rfl, rfl, fun _ _ => rfl⟩, rfl, rfl, rfl, rfl, trivial⟩, ⟨trivial, rfl, rfl, rfl, fun _ _ => ⟨rfl, rfl, rfl, trivial⟩⟩, ⟨trivial, rfl, rfl, rfl, fun _ _ => ⟨rfl, rfl, rfl, rfl, rfl, rfl, rfl, rfl, ⟨rfl, rfl, fun _ _ => rfl⟩, ⟨rfl, rfl, fun _ _ => rfl⟩, ⟨rfl, rfl, fun _ _ => rfl⟩, rfl, rfl, trivial⟩⟩, ⟨trivial, rfl, rfl, rfl, fun _ _ => ⟨rfl, rfl, rfl, ⟨rfl, rfl, fun _ _ => rfl⟩, ⟨rfl, rfl, fun _ _ => rfl⟩, rfl, trivial⟩⟩, ⟨trivial, fun _ hi => ⟨hi, rfl, rfl, rfl, fun _ _ => ⟨rfl, trivial⟩⟩⟩, trivial⟩ (by first | exact trivial | exact ⟨⟨rfl, Nat.le_refl _, trivial⟩, trivial⟩ | exact ⟨⟨rfl, trivial, ⟨rfl, trivial, ⟨rfl, trivial, ⟨rfl, trivial, ⟨rfl, trivial, trivial⟩⟩⟩⟩⟩, trivial⟩) ?_) | (apply call0_ (g := 123); refine call_l11Add [] (l := (tk s t).puts) (x := ⟨(ds.getD (s.tasks.getD t default).at_.toNat default).a, (tk s t).regs.getD (ds.getD (s.tasks.getD t default).at_.toNat default).b.toNat default⟩) (by omega) rfl ⟨⟨rfl, rfl, fun _ _ => rfl⟩, ⟨rfl, rfl, trivial⟩, trivial⟩ trivial (by first | exact trivial | exact ⟨trivial, trivial⟩) ?_) | (apply call0_ (g := 124); refine call_l2Reg [.mem 4 t] (l := (tk s t).regs) (d := ds.getD (s.tasks.getD t default).at_.toNat default) hr hx (by omega) (by omega) rfl ⟨rfl, ⟨rfl, rfl, rfl, trivial⟩, trivial⟩ ⟨⟨ht, rfl, rfl, rfl, fun _ _ => ⟨rfl, trivial⟩⟩, trivial⟩ (by first | exact trivial | exact ⟨⟨rfl, Nat.le_refl _, trivial⟩, trivial⟩ | exact ⟨⟨rfl, trivial, trivial⟩, trivial⟩) ?_))
      all_goals (try simp only [Int.toNat_natCast] at *)
      all_goals first | omega | skip
      · rename_i k1
        have e : deedS s t ds = loadS s t (ds.getD (s.tasks.getD t default).at_.toNat default) := by simp only [deedS]; rw [if_neg h1, if_pos k1]
        have hle : (deedS s t ds).log.length = nl := by rw [e, loadS_log]; exact hl
        rw [hle, e]
        apply ret_ []
        apply retAt_ [.all 0, .gone 1, .gone 2, .gone 3, .gone 4, .all 7, .all 8, .all 9, .all 10] (.t []) [wB p (loadS s t (ds.getD (s.tasks.getD t default).at_.toNat default)) nc nt nl 5 6 7, .dead, .dead, .dead, .dead, wC (loadS s t (ds.getD (s.tasks.getD t default).at_.toNat default)) nc, wT (loadS s t (ds.getD (s.tasks.getD t default).at_.toNat default)) nt 8, wL (loadS s t (ds.getD (s.tasks.getD t default).at_.toNat default)) nl, wR (loadS s t (ds.getD (s.tasks.getD t default).at_.toNat default)) nt] rfl rfl
        · trivial
        · exact ⟨⟨trivial, rfl, ⟨rfl, rfl, fun _ _ => rfl⟩, ⟨rfl, rfl, fun _ _ => rfl⟩, rfl, rfl, rfl, rfl, trivial⟩, trivial, trivial, trivial, trivial, ⟨trivial, rfl, rfl, rfl, fun _ _ => ⟨rfl, rfl, rfl, trivial⟩⟩, ⟨trivial, rfl, rfl, rfl, fun _ _ => ⟨rfl, rfl, rfl, rfl, rfl, rfl, rfl, rfl, ⟨rfl, rfl, fun _ _ => rfl⟩, ⟨rfl, rfl, fun _ _ => rfl⟩, ⟨rfl, rfl, fun _ _ => rfl⟩, rfl, rfl, trivial⟩⟩, ⟨trivial, rfl, rfl, rfl, fun _ _ => ⟨rfl, rfl, rfl, ⟨rfl, rfl, fun _ _ => rfl⟩, ⟨rfl, rfl, fun _ _ => rfl⟩, rfl, trivial⟩⟩, ⟨trivial, fun _ hi => ⟨hi, rfl, rfl, rfl, fun _ _ => ⟨rfl, trivial⟩⟩⟩, trivial⟩
        · exact ⟨rfl, rfl⟩
      · rename_i k1 k2
        (apply to_ []; apply toAt_ [.all 0, .all 1, .all 2, .all 3, .all 4, .all 5] (setT s t { tk s t with puts := addP (tk s t).puts ⟨(ds.getD (tk s t).at_.toNat default).a, (tk s t).regs.getD (ds.getD (tk s t).at_.toNat default).b.toNat default⟩ }); rotate_left 1; exact ⟨rfl, rfl, rfl, rfl, ⟨rfl, rfl, rfl, trivial⟩, ⟨trivial, rfl, ⟨rfl, rfl, fun _ _ => rfl⟩, ⟨rfl, rfl, fun _ _ => rfl⟩, rfl, rfl, rfl, rfl, trivial⟩, ⟨trivial, rfl, rfl, rfl, fun _ _ => ⟨rfl, rfl, rfl, trivial⟩⟩, ⟨trivial, rfl, rfl, rfl, setLeJ (fun j x => eTaskO x 4 j) hn (fun _ _ _ => ⟨rfl, rfl, rfl, rfl, rfl, rfl, rfl, rfl, ⟨rfl, rfl, fun _ _ => rfl⟩, ⟨rfl, rfl, fun _ _ => rfl⟩, ⟨rfl, rfl, fun _ _ => rfl⟩, rfl, rfl, trivial⟩) ⟨rfl, rfl, rfl, rfl, rfl, rfl, rfl, rfl, ⟨rfl, rfl, fun _ _ => rfl⟩, ⟨rfl, rfl, fun _ _ => rfl⟩, ⟨rfl, rfl, fun _ _ => rfl⟩, rfl, rfl, trivial⟩⟩, ⟨trivial, rfl, rfl, rfl, fun _ _ => ⟨rfl, rfl, rfl, ⟨rfl, rfl, fun _ _ => rfl⟩, ⟨rfl, rfl, fun _ _ => rfl⟩, rfl, trivial⟩⟩, ⟨trivial, fun i hi => ⟨hi, rfl, rfl, rfl, fun j _ => famId (ts := s.tasks) (t := t) (x := { tk s t with puts := addP (tk s t).puts ⟨(ds.getD (tk s t).at_.toNat default).a, (tk s t).regs.getD (ds.getD (tk s t).at_.toNat default).b.toNat default⟩ }) rfl i j⟩⟩, ⟨trivial, rfl, rfl, rfl, rfl, rfl, rfl, rfl, rfl, rfl, ⟨rfl, rfl, fun _ _ => rfl⟩, ⟨rfl, rfl, fun _ _ => rfl⟩, ⟨rfl, rfl, fun _ _ => rfl⟩, rfl, rfl, trivial⟩, trivial⟩)
        refine ⟨?_, by rw [setT_len]; exact hn, hl⟩
        rw [tk_setT (by omega), setT_setT]
        simp only [deedS]
        rw [if_neg h1, if_neg k1, if_pos k2]
      · rename_i k1 k2 k3 k4
        have e : deedS s t ds = setT (againS s t) t { tk (againS s t) t with when := (tk s t).since + 1 } := by simp only [deedS]; rw [if_neg h1, if_neg k1, if_neg k2, if_pos k3, if_pos k4]
        have hnA : (againS s t).tasks.length = nt := by unfold againS; rw [setT_len]; exact hn
        have hR5 : wR (setT (againS s t) t { tk (againS s t) t with when := (tk s t).since + 1 }) nt = wR (againS s t) nt := wR_set rfl
        have hle : (setT (againS s t) t { tk (againS s t) t with when := (tk s t).since + 1 }).log.length = nl := hl
        rw [e, hle]
        apply ret_ []
        apply retAt_ [.all 0, .gone 1, .gone 2, .gone 3, .gone 4, .all 7, .all 8, .all 9, .all 10] (.t []) [wB p (againS s t) nc nt nl 5 6 7, .dead, .dead, .dead, .dead, wC (againS s t) nc, wT (setT (againS s t) t { tk (againS s t) t with when := (tk s t).since + 1 }) nt 8, wL (againS s t) nl, wR (againS s t) nt] rfl rfl
        · trivial
        · exact ⟨⟨trivial, rfl, ⟨rfl, rfl, fun _ _ => rfl⟩, ⟨rfl, rfl, fun _ _ => rfl⟩, rfl, rfl, rfl, rfl, trivial⟩, trivial, trivial, trivial, trivial, ⟨trivial, rfl, rfl, rfl, fun _ _ => ⟨rfl, rfl, rfl, trivial⟩⟩, ⟨trivial, rfl, rfl, rfl, setLeJ (fun j x => eTaskO x 8 j) hnA (fun _ _ _ => ⟨rfl, rfl, rfl, rfl, rfl, rfl, rfl, rfl, ⟨rfl, rfl, fun _ _ => rfl⟩, ⟨rfl, rfl, fun _ _ => rfl⟩, ⟨rfl, rfl, fun _ _ => rfl⟩, rfl, rfl, trivial⟩) ⟨rfl, rfl, rfl, rfl, rfl, rfl, rfl, rfl, ⟨rfl, rfl, fun _ _ => rfl⟩, ⟨rfl, rfl, fun _ _ => rfl⟩, ⟨rfl, rfl, fun _ _ => rfl⟩, rfl, rfl, trivial⟩⟩, ⟨trivial, rfl, rfl, rfl, fun _ _ => ⟨rfl, rfl, rfl, ⟨rfl, rfl, fun _ _ => rfl⟩, ⟨rfl, rfl, fun _ _ => rfl⟩, rfl, trivial⟩⟩, ⟨trivial, fun _ hi => ⟨hi, rfl, rfl, rfl, fun _ _ => ⟨rfl, trivial⟩⟩⟩, trivial⟩
        · exact ⟨by rw [hR5]; rfl, rfl⟩
      · rename_i k1 k2 k3 k4
        (apply to_ []; apply toAt_ [.all 0, .all 1, .all 2, .all 3, .all 4, .all 5] s; rotate_left 1; exact ⟨rfl, rfl, rfl, rfl, ⟨rfl, rfl, rfl, trivial⟩, ⟨trivial, rfl, ⟨rfl, rfl, fun _ _ => rfl⟩, ⟨rfl, rfl, fun _ _ => rfl⟩, rfl, rfl, rfl, rfl, trivial⟩, ⟨trivial, rfl, rfl, rfl, fun _ _ => ⟨rfl, rfl, rfl, trivial⟩⟩, ⟨trivial, rfl, rfl, rfl, fun _ _ => ⟨rfl, rfl, rfl, rfl, rfl, rfl, rfl, rfl, ⟨rfl, rfl, fun _ _ => rfl⟩, ⟨rfl, rfl, fun _ _ => rfl⟩, ⟨rfl, rfl, fun _ _ => rfl⟩, rfl, rfl, trivial⟩⟩, ⟨trivial, rfl, rfl, rfl, fun _ _ => ⟨rfl, rfl, rfl, ⟨rfl, rfl, fun _ _ => rfl⟩, ⟨rfl, rfl, fun _ _ => rfl⟩, rfl, trivial⟩⟩, ⟨trivial, fun _ hi => ⟨hi, rfl, rfl, rfl, fun _ _ => ⟨rfl, trivial⟩⟩⟩, ⟨trivial, rfl, rfl, rfl, rfl, rfl, rfl, rfl, rfl, rfl, ⟨rfl, rfl, fun _ _ => rfl⟩, ⟨rfl, rfl, fun _ _ => rfl⟩, ⟨rfl, rfl, fun _ _ => rfl⟩, rfl, rfl, trivial⟩, trivial⟩)
        refine ⟨?_, hn, hl⟩
        simp only [deedS]
        rw [if_neg h1, if_neg k1, if_neg k2, if_pos k3, if_neg k4]
      · rename_i k1 k2 k3
        (apply to_ []; apply toAt_ [.all 0, .all 1, .all 2, .all 3, .all 4, .all 5] (setT s t { tk s t with regs := regF (tk s t).regs (ds.getD (tk s t).at_.toNat default) }); rotate_left 1; exact ⟨rfl, rfl, rfl, rfl, ⟨rfl, rfl, rfl, trivial⟩, ⟨trivial, rfl, ⟨rfl, rfl, fun _ _ => rfl⟩, ⟨rfl, rfl, fun _ _ => rfl⟩, rfl, rfl, rfl, rfl, trivial⟩, ⟨trivial, rfl, rfl, rfl, fun _ _ => ⟨rfl, rfl, rfl, trivial⟩⟩, ⟨trivial, rfl, rfl, rfl, idSet hn (fun _ => rfl) (fun _ => rfl) rfl⟩, ⟨trivial, rfl, rfl, rfl, fun _ _ => ⟨rfl, rfl, rfl, ⟨rfl, rfl, fun _ _ => rfl⟩, ⟨rfl, rfl, fun _ _ => rfl⟩, rfl, trivial⟩⟩, ⟨trivial, fun i hi => ⟨hi, rfl, rfl, rfl, famLe2 (ts := s.tasks) (t := t) (x := { tk s t with regs := regF (tk s t).regs (ds.getD (tk s t).at_.toNat default) }) hn rfl i hi⟩⟩, ⟨trivial, rfl, rfl, rfl, rfl, rfl, rfl, rfl, rfl, rfl, ⟨rfl, rfl, fun _ _ => rfl⟩, ⟨rfl, rfl, fun _ _ => rfl⟩, ⟨rfl, rfl, fun _ _ => rfl⟩, rfl, rfl, trivial⟩, trivial⟩)
        refine ⟨?_, by rw [setT_len]; exact hn, hl⟩
        rw [tk_setT (by omega), setT_setT]
        simp only [deedS]
        rw [if_neg h1, if_neg k1, if_neg k2, if_neg k3]
    · rintro S ⟨e1, e2, e3⟩
      have hR5 : wR (setT S t { tk S t with at_ := (tk s t).at_ + 1 }) nt = wR S nt := wR_set rfl
      have hle : (setT S t { tk S t with at_ := (tk s t).at_ + 1 }).log.length = nl := e3
      rw [← e1, hle]
      repeat' ((conv => whnf); first | (refine And.intro ?_ ?_) | (intro _))
      all_goals (try simp only [Int.toNat_natCast] at *)
      all_goals first | omega | skip
      apply ret_ []
      apply retAt_ [.all 0, .gone 1, .gone 2, .gone 3, .gone 4, .all 1, .all 2, .all 3, .all 4] (.t []) [wB p S nc nt nl 5 6 7, .dead, .dead, .dead, .dead, wC S nc, wT (setT S t { tk S t with at_ := (tk s t).at_ + 1 }) nt 8, wL S nl, wR S nt] rfl rfl
      · trivial
      · exact ⟨⟨trivial, rfl, ⟨rfl, rfl, fun _ _ => rfl⟩, ⟨rfl, rfl, fun _ _ => rfl⟩, rfl, rfl, rfl, rfl, trivial⟩, trivial, trivial, trivial, trivial, ⟨trivial, rfl, rfl, rfl, fun _ _ => ⟨rfl, rfl, rfl, trivial⟩⟩, ⟨trivial, rfl, rfl, rfl, setLeJ (fun j x => eTaskO x 8 j) e2 (fun _ _ _ => ⟨rfl, rfl, rfl, rfl, rfl, rfl, rfl, rfl, ⟨rfl, rfl, fun _ _ => rfl⟩, ⟨rfl, rfl, fun _ _ => rfl⟩, ⟨rfl, rfl, fun _ _ => rfl⟩, rfl, rfl, trivial⟩) ⟨rfl, rfl, rfl, rfl, rfl, rfl, rfl, rfl, ⟨rfl, rfl, fun _ _ => rfl⟩, ⟨rfl, rfl, fun _ _ => rfl⟩, ⟨rfl, rfl, fun _ _ => rfl⟩, rfl, rfl, trivial⟩⟩, ⟨trivial, rfl, rfl, rfl, fun _ _ => ⟨rfl, rfl, rfl, ⟨rfl, rfl, fun _ _ => rfl⟩, ⟨rfl, rfl, fun _ _ => rfl⟩, rfl, trivial⟩⟩, ⟨trivial, fun _ hi => ⟨hi, rfl, rfl, rfl, fun _ _ => ⟨rfl, trivial⟩⟩⟩, trivial⟩
      · exact ⟨by rw [hR5]; rfl, rfl⟩
theorem callx_deed {al0 : Lim} {s0 : St} {as0 : List Operand} {d0 : Option Tmp} {K0 : St → Prop} {p : DProg} {s : DSys} {nc nt nl t : Nat} {ds : List Deed} (ρ : List Sel) (cok_ : CallOK prog 113 [ptr 0, int t, lst 3 eDeed ds] [wB p s nc nt nl 1 2 3, wC s nc, wT s nt 4, wL s nl, wR s nt] (fun r os => os = [wB p (deedS s t ds) nc nt (deedS s t ds).log.length 5 6 7, .dead, .dead, .dead, .dead, wC (deedS s t ds) nc, wT (deedS s t ds) nt 8, wL (deedS s t ds) (deedS s t ds).log.length, wR (deedS s t ds) nt] ∧ r = .t [])) (cn_ : nodupB (keysOf ρ) = true) (ca_ : tvsLe ρ s0.loc.length (as0.map (ev s0)) [ptr 0, int t, lst 3 eDeed ds]) (co_ : locLe ρ s0.loc.length s0.loc s0.fz ρ [wB p s nc nt nl 1 2 3, wC s nc, wT s nt 4, wL s nl, wR s nt]) (cl_ : limP al0 s0.loc ρ True) (ck_ : placesK s0.loc ρ ([wB p (deedS s t ds) nc nt (deedS s t ds).log.length 5 6 7, .dead, .dead, .dead, .dead, wC (deedS s t ds) nc, wT (deedS s t ds) nt 8, wL (deedS s t ds) (deedS s t ds).log.length, wR (deedS s t ds) nt].map (AObj.up ρ s0.loc.length)) fun loc' => s0.afterK loc' d0 ((.t [] : TV).up ρ s0.loc.length) K0) : CallAt prog al0 s0 113 as0 d0 K0 :=
  callB ρ cok_ cn_ ca_ co_ cl_ (by rintro r os ⟨rfl, rfl⟩; exact ck_ )
theorem call_deed {al0 : Lim} {s0 : St} {as0 : List Operand} {d0 : Option Tmp} {K0 : St → Prop} {p : DProg} {s : DSys} {nc nt nl t : Nat} {ds : List Deed} (ρ : List Sel) (hc : s.cells.length = nc) (hn : s.tasks.length = nt) (hl : s.log.length = nl) (ht : t < nt) (ho : (tk s t).old.length = 3) (hr : (tk s t).regs.length = 3) (hx : ∀ j, j < 3 → 0 ≤ (tk s t).regs.getD j default ∧ (tk s t).regs.getD j default ≤ 99) (hat : 0 ≤ (tk s t).at_ ∧ (tk s t).at_ ≤ 1000000) (hrd : (tk s t).reads.length ≤ 1000000) (hpt : (tk s t).puts.length ≤ 1000000) (hpc : 0 ≤ (tk s t).pc ∧ (tk s t).pc ≤ 1000000) (hsi : 0 ≤ (tk s t).since ∧ (tk s t).since ≤ 1000000) (hnl : nl ≤ 1000000000) (hd : (tk s t).at_ < ds.length → deedP (ds.getD (tk s t).at_.toNat default) nc) (cn_ : nodupB (keysOf ρ) = true) (ca_ : tvsLe ρ s0.loc.length (as0.map (ev s0)) [ptr 0, int t, lst 3 eDeed ds]) (co_ : locLe ρ s0.loc.length s0.loc s0.fz ρ [wB p s nc nt nl 1 2 3, wC s nc, wT s nt 4, wL s nl, wR s nt]) (cl_ : limP al0 s0.loc ρ True) (ck_ : placesK s0.loc ρ ([wB p (deedS s t ds) nc nt (deedS s t ds).log.length 5 6 7, .dead, .dead, .dead, .dead, wC (deedS s t ds) nc, wT (deedS s t ds) nt 8, wL (deedS s t ds) (deedS s t ds).log.length, wR (deedS s t ds) nt].map (AObj.up ρ s0.loc.length)) fun loc' => s0.afterK loc' d0 ((.t [] : TV).up ρ s0.loc.length) K0) : CallAt prog al0 s0 113 as0 d0 K0 :=
  callx_deed ρ (deed_ok p s nc nt nl t ds hc hn hl ht ho hr hx hat hrd hpt hpc hsi hnl hd) cn_ ca_ co_ cl_ ck_
end Go.Proofs.AYT
namespace Go.Proofs.AYT
open Go Go.Proofs.AY Go.Proofs.Try
def plans103 : Plans := [(2, ⟨.take 0 false (.take 1 false (.take 2 false (.take 3 false (.take 5 false (.take 4 true (.take 6 true (.take 7 false (.take 8 true (.take 9 false .done))))))))), [], []⟩)]
theorem plans103_ok : plansOk plans103 (bodyOf f103) = true := by kernel_rfl
theorem act_ok (p : DProg) (s : DSys) (nc nt nl t : Nat) (hn : s.tasks.length = nt) (ht : t < nt) (hb : 0 ≤ (tk s t).body ∧ (tk s t).body < p.bodies.length) (hpc : 0 ≤ (tk s t).pc) : CallOK prog 103 [ptr 0, int t] [wB p s nc nt nl 1 2 3, wC s nc, wT s nt 4, wL s nl, wR s nt] (fun r os => os = [wB p s nc nt nl 1 2 3, wC s nc, wT s nt 4, wL s nl, wR s nt] ∧ r = .t [.a (eAct (nextA p (tk s t))), .c (.v (.bool (decide ((tk s t).pc < (actsOf p (tk s t).body).length))))]) := by
  refine fn_ [] tab_ok hmo func103 rfl rfl plans103_ok rfl ?_
  have hb' : 0 ≤ (s.tasks.getD t default).body ∧ (s.tasks.getD t default).body < p.bodies.length := hb
  have hpc' : 0 ≤ (s.tasks.getD t default).pc := hpc
  repeat' ((conv => whnf); first | (refine And.intro ?_ ?_) | (intro _) | (exact Nat.succ_le_of_lt (by omega)) | (simp only [Int.toNat_natCast, if_true]))
  all_goals (try simp only [Int.toNat_natCast] at *)
  all_goals first | omega | exact ht | skip
  · exact hb'.1
  · exact hb'.2
  · rename_i h1
    have e : nextA p (tk s t) = default := if_pos h1
    have e2 : decide ((tk s t).pc < (actsOf p (tk s t).body).length) = false := decide_eq_false (Int.not_lt.2 h1)
    rw [e, e2]
    apply ret_ []
    apply retAt_ [.all 0, .all 1, .all 2, .all 3, .all 4] (.t [.a (eAct default), .c (.v (.bool false))]) [wB p s nc nt nl 1 2 3, wC s nc, wT s nt 4, wL s nl, wR s nt] rfl rfl
    · exact ⟨⟨rfl, rfl, rfl, rfl, trivial⟩, rfl, trivial⟩
    · exact ⟨⟨trivial, rfl, ⟨rfl, rfl, fun _ _ => rfl⟩, ⟨rfl, rfl, fun _ _ => rfl⟩, rfl, rfl, rfl, rfl, trivial⟩, ⟨trivial, rfl, rfl, rfl, fun _ _ => ⟨rfl, rfl, rfl, trivial⟩⟩, ⟨trivial, rfl, rfl, rfl, fun _ _ => ⟨rfl, rfl, rfl, rfl, rfl, rfl, rfl, rfl, ⟨rfl, rfl, fun _ _ => rfl⟩, ⟨rfl, rfl, fun _ _ => rfl⟩, ⟨rfl, rfl, fun _ _ => rfl⟩, rfl, rfl, trivial⟩⟩, ⟨trivial, rfl, rfl, rfl, fun _ _ => ⟨rfl, rfl, rfl, ⟨rfl, rfl, fun _ _ => rfl⟩, ⟨rfl, rfl, fun _ _ => rfl⟩, rfl, trivial⟩⟩, ⟨trivial, fun _ hi => ⟨hi, rfl, rfl, rfl, fun _ _ => ⟨rfl, trivial⟩⟩⟩, trivial⟩
    · exact ⟨rfl, rfl⟩
  · exact hpc'
  · exact Int.not_le.1 ‹_›
  · rename_i h1
    have e : nextA p (tk s t) = actAt p (tk s t) := if_neg h1
    have e2 : decide ((tk s t).pc < (actsOf p (tk s t).body).length) = true := decide_eq_true (Int.not_le.1 h1)
    rw [e, e2]
    apply ret_ []
    apply retAt_ [.all 0, .all 1, .all 2, .all 3, .all 4] (.t [.a (eAct (actAt p (tk s t))), .c (.v (.bool true))]) [wB p s nc nt nl 1 2 3, wC s nc, wT s nt 4, wL s nl, wR s nt] rfl rfl
    · exact ⟨⟨rfl, ⟨rfl, rfl, fun _ _ => rfl⟩, ⟨rfl, rfl, fun _ _ => rfl⟩, rfl, trivial⟩, rfl, trivial⟩
    · exact ⟨⟨trivial, rfl, ⟨rfl, rfl, fun _ _ => rfl⟩, ⟨rfl, rfl, fun _ _ => rfl⟩, rfl, rfl, rfl, rfl, trivial⟩, ⟨trivial, rfl, rfl, rfl, fun _ _ => ⟨rfl, rfl, rfl, trivial⟩⟩, ⟨trivial, rfl, rfl, rfl, fun _ _ => ⟨rfl, rfl, rfl, rfl, rfl, rfl, rfl, rfl, ⟨rfl, rfl, fun _ _ => rfl⟩, ⟨rfl, rfl, fun _ _ => rfl⟩, ⟨rfl, rfl, fun _ _ => rfl⟩, rfl, rfl, trivial⟩⟩, ⟨trivial, rfl, rfl, rfl, fun _ _ => ⟨rfl, rfl, rfl, ⟨rfl, rfl, fun _ _ => rfl⟩, ⟨rfl, rfl, fun _ _ => rfl⟩, rfl, trivial⟩⟩, ⟨trivial, fun _ hi => ⟨hi, rfl, rfl, rfl, fun _ _ => ⟨rfl, trivial⟩⟩⟩, trivial⟩
    · exact ⟨rfl, rfl⟩
theorem callx_act {al0 : Lim} {s0 : St} {as0 : List Operand} {d0 : Option Tmp} {K0 : St → Prop} {p : DProg} {s : DSys} {nc nt nl t : Nat} (ρ : List Sel) (cok_ : CallOK prog 103 [ptr 0, int t] [wB p s nc nt nl 1 2 3, wC s nc, wT s nt 4, wL s nl, wR s nt] (fun r os => os = [wB p s nc nt nl 1 2 3, wC s nc, wT s nt 4, wL s nl, wR s nt] ∧ r = .t [.a (eAct (nextA p (tk s t))), .c (.v (.bool (decide ((tk s t).pc < (actsOf p (tk s t).body).length))))])) (cn_ : nodupB (keysOf ρ) = true) (ca_ : tvsLe ρ s0.loc.length (as0.map (ev s0)) [ptr 0, int t]) (co_ : locLe ρ s0.loc.length s0.loc s0.fz ρ [wB p s nc nt nl 1 2 3, wC s nc, wT s nt 4, wL s nl, wR s nt]) (cl_ : limP al0 s0.loc ρ True) (ck_ : placesK s0.loc ρ ([wB p s nc nt nl 1 2 3, wC s nc, wT s nt 4, wL s nl, wR s nt].map (AObj.up ρ s0.loc.length)) fun loc' => s0.afterK loc' d0 ((.t [.a (eAct (nextA p (tk s t))), .c (.v (.bool (decide ((tk s t).pc < (actsOf p (tk s t).body).length))))] : TV).up ρ s0.loc.length) K0) : CallAt prog al0 s0 103 as0 d0 K0 :=
  callB ρ cok_ cn_ ca_ co_ cl_ (by rintro r os ⟨rfl, rfl⟩; exact ck_ )
theorem call_act {al0 : Lim} {s0 : St} {as0 : List Operand} {d0 : Option Tmp} {K0 : St → Prop} {p : DProg} {s : DSys} {nc nt nl t : Nat} (ρ : List Sel) (hn : s.tasks.length = nt) (ht : t < nt) (hb : 0 ≤ (tk s t).body ∧ (tk s t).body < p.bodies.length) (hpc : 0 ≤ (tk s t).pc) (cn_ : nodupB (keysOf ρ) = true) (ca_ : tvsLe ρ s0.loc.length (as0.map (ev s0)) [ptr 0, int t]) (co_ : locLe ρ s0.loc.length s0.loc s0.fz ρ [wB p s nc nt nl 1 2 3, wC s nc, wT s nt 4, wL s nl, wR s nt]) (cl_ : limP al0 s0.loc ρ True) (ck_ : placesK s0.loc ρ ([wB p s nc nt nl 1 2 3, wC s nc, wT s nt 4, wL s nl, wR s nt].map (AObj.up ρ s0.loc.length)) fun loc' => s0.afterK loc' d0 ((.t [.a (eAct (nextA p (tk s t))), .c (.v (.bool (decide ((tk s t).pc < (actsOf p (tk s t).body).length))))] : TV).up ρ s0.loc.length) K0) : CallAt prog al0 s0 103 as0 d0 K0 :=
  callx_act ρ (act_ok p s nc nt nl t hn ht hb hpc) cn_ ca_ co_ cl_ ck_
end Go.Proofs.AYT
namespace Go.Proofs.AYT
open Go Go.Proofs.AY Go.Proofs.Try
def plans105 : Plans := [(10, ⟨.take 0 false (.take 1 false (.take 2 false (.take 3 false (.take 5 false (.take 6 false (.take 7 false (.take 8 false (.take 9 false (.take 4 true (.take 10 true (.take 11 false (.take 12 false (.alt 13 .done .done))))))))))))), [13], []⟩)]
theorem plans105_ok : plansOk plans105 (bodyOf f105) = true := by kernel_rfl
theorem try__ok (p : DProg) (s : DSys) (nc nt nl t : Nat) (ds : List Deed) (hc : s.cells.length = nc) (hn : s.tasks.length = nt) (hl : s.log.length = nl) (ht : t < nt) (hf : Fit nc (tk s t)) (hnl : nl ≤ 1000000000) (hck : 0 ≤ s.clock ∧ s.clock ≤ 1000000) (hd : (tk s t).stage = 1 → (tk s t).at_ < ds.length → deedP (ds.getD (tk s t).at_.toNat default) nc) : CallOK prog 105 [ptr 0, int t, lst 3 eDeed ds] [wB p s nc nt nl 1 2 3, wC s nc, wT s nt 4, wL s nl, wR s nt] (fun r os => os = [wB p (tryS s t ds) nc nt (tryS s t ds).log.length 5 6 7, .dead, .dead, .dead, .dead, wC (tryS s t ds) nc, wT (tryS s t ds) nt 8, wL (tryS s t ds) (tryS s t ds).log.length, wR (tryS s t ds) nt] ∧ r = .t []) := by
  have hst5 : ¬(s.tasks.getD t default).stage = 0 → ¬(s.tasks.getD t default).stage = 1 → ¬(s.tasks.getD t default).stage = 2 → ¬(s.tasks.getD t default).stage = 3 → ¬(s.tasks.getD t default).stage = 4 → (s.tasks.getD t default).stage = 5 := by intro a b c d e; have h1 : 0 ≤ (s.tasks.getD t default).stage ∧ (s.tasks.getD t default).stage ≤ 5 := hf.hst; omega
  obtain ⟨S1, hS1⟩ : ∃ S1, S1 = setT { s with clock := s.clock + 1 } t { tk s t with when := s.clock + 1 } := ⟨_, rfl⟩
  have hn1 : S1.tasks.length = nt := by rw [hS1, setT_len]; exact hn
  have hl1 : S1.log.length = nl := by rw [hS1]; exact hl
  have hR1 : wR S1 nt = wR s nt := by rw [hS1]; exact wR_set (s := { s with clock := s.clock + 1 }) rfl
  refine fn_ [11] tab_ok hmo func105 rfl rfl plans105_ok rfl ?_
  repeat' ((conv => whnf); first | (refine And.intro ?_ ?_) | (intro _) | (apply call0_ (g := 112); refine call_begin [.all 0, .all 1, .all 2, .all 3, .all 4] hn hl ht hf.hr rfl ⟨rfl, rfl, trivial⟩ ⟨⟨trivial, rfl, ⟨rfl, rfl, fun _ _ => rfl⟩, ⟨rfl, rfl, fun _ _ => rfl⟩, rfl, rfl, rfl, rfl, trivial⟩, ⟨trivial, rfl, rfl, rfl, fun _ _ => ⟨rfl, rfl, rfl, trivial⟩⟩, ⟨trivial, rfl, rfl, rfl, fun _ _ => ⟨rfl, rfl, rfl, rfl, rfl, rfl, rfl, rfl, ⟨rfl, rfl, fun _ _ => rfl⟩, ⟨rfl, rfl, fun _ _ => rfl⟩, ⟨rfl, rfl, fun _ _ => rfl⟩, rfl, rfl, trivial⟩⟩, ⟨trivial, rfl, rfl, rfl, fun _ _ => ⟨rfl, rfl, rfl, ⟨rfl, rfl, fun _ _ => rfl⟩, ⟨rfl, rfl, fun _ _ => rfl⟩, rfl, trivial⟩⟩, ⟨trivial, fun _ hi => ⟨hi, rfl, rfl, rfl, fun _ _ => ⟨rfl, trivial⟩⟩⟩, trivial⟩ (by first | exact trivial | exact ⟨⟨rfl, Nat.le_refl _, trivial⟩, trivial⟩ | exact ⟨⟨rfl, trivial, ⟨rfl, trivial, ⟨rfl, trivial, ⟨rfl, trivial, ⟨rfl, trivial, trivial⟩⟩⟩⟩⟩, trivial⟩) ?_) | (apply call0_ (g := 113); refine call_deed [.all 0, .all 1, .all 2, .all 3, .all 4] (ds := ds) hc hn hl ht hf.ho hf.hr hf.hx hf.hat hf.hrd hf.hpt hf.hpc hf.hsi hnl (hd (by simp only [Int.toNat_natCast] at *; omega)) rfl ⟨rfl, rfl, ⟨rfl, rfl, fun _ _ => rfl⟩, trivial⟩ ⟨⟨trivial, rfl, ⟨rfl, rfl, fun _ _ => rfl⟩, ⟨rfl, rfl, fun _ _ => rfl⟩, rfl, rfl, rfl, rfl, trivial⟩, ⟨trivial, rfl, rfl, rfl, fun _ _ => ⟨rfl, rfl, rfl, trivial⟩⟩, ⟨trivial, rfl, rfl, rfl, fun _ _ => ⟨rfl, rfl, rfl, rfl, rfl, rfl, rfl, rfl, ⟨rfl, rfl, fun _ _ => rfl⟩, ⟨rfl, rfl, fun _ _ => rfl⟩, ⟨rfl, rfl, fun _ _ => rfl⟩, rfl, rfl, trivial⟩⟩, ⟨trivial, rfl, rfl, rfl, fun _ _ => ⟨rfl, rfl, rfl, ⟨rfl, rfl, fun _ _ => rfl⟩, ⟨rfl, rfl, fun _ _ => rfl⟩, rfl, trivial⟩⟩, ⟨trivial, fun _ hi => ⟨hi, rfl, rfl, rfl, fun _ _ => ⟨rfl, trivial⟩⟩⟩, trivial⟩ (by first | exact trivial | exact ⟨⟨rfl, Nat.le_refl _, trivial⟩, trivial⟩ | exact ⟨⟨rfl, trivial, ⟨rfl, trivial, ⟨rfl, trivial, ⟨rfl, trivial, ⟨rfl, trivial, trivial⟩⟩⟩⟩⟩, trivial⟩) ?_) | (apply call0_ (g := 114); refine call_lock [.all 0, .all 1, .all 2, .all 3, .all 4] hc hn ht hf.ho ⟨hf.hat.1, (hf.hlk (Or.inl (by simp only [Int.toNat_natCast] at *; omega))).1⟩ hf.hpt (hf.hlk (Or.inl (by simp only [Int.toNat_natCast] at *; omega))).2 rfl ⟨rfl, rfl, trivial⟩ ⟨⟨trivial, rfl, ⟨rfl, rfl, fun _ _ => rfl⟩, ⟨rfl, rfl, fun _ _ => rfl⟩, rfl, rfl, rfl, rfl, trivial⟩, ⟨trivial, rfl, rfl, rfl, fun _ _ => ⟨rfl, rfl, rfl, trivial⟩⟩, ⟨trivial, rfl, rfl, rfl, fun _ _ => ⟨rfl, rfl, rfl, rfl, rfl, rfl, rfl, rfl, ⟨rfl, rfl, fun _ _ => rfl⟩, ⟨rfl, rfl, fun _ _ => rfl⟩, ⟨rfl, rfl, fun _ _ => rfl⟩, rfl, rfl, trivial⟩⟩, ⟨trivial, rfl, rfl, rfl, fun _ _ => ⟨rfl, rfl, rfl, ⟨rfl, rfl, fun _ _ => rfl⟩, ⟨rfl, rfl, fun _ _ => rfl⟩, rfl, trivial⟩⟩, ⟨trivial, fun _ hi => ⟨hi, rfl, rfl, rfl, fun _ _ => ⟨rfl, trivial⟩⟩⟩, trivial⟩ (by first | exact trivial | exact ⟨⟨rfl, Nat.le_refl _, trivial⟩, trivial⟩ | exact ⟨⟨rfl, trivial, ⟨rfl, trivial, ⟨rfl, trivial, ⟨rfl, trivial, ⟨rfl, trivial, trivial⟩⟩⟩⟩⟩, trivial⟩) ?_) | (apply call0_ (g := 116); refine call_check [.all 0, .all 1, .all 2, .all 3, .all 4] hc hn ht hf.ho hf.hat.1 (hf.hck (by simp only [Int.toNat_natCast] at *; omega)) rfl ⟨rfl, rfl, trivial⟩ ⟨⟨trivial, rfl, ⟨rfl, rfl, fun _ _ => rfl⟩, ⟨rfl, rfl, fun _ _ => rfl⟩, rfl, rfl, rfl, rfl, trivial⟩, ⟨trivial, rfl, rfl, rfl, fun _ _ => ⟨rfl, rfl, rfl, trivial⟩⟩, ⟨trivial, rfl, rfl, rfl, fun _ _ => ⟨rfl, rfl, rfl, rfl, rfl, rfl, rfl, rfl, ⟨rfl, rfl, fun _ _ => rfl⟩, ⟨rfl, rfl, fun _ _ => rfl⟩, ⟨rfl, rfl, fun _ _ => rfl⟩, rfl, rfl, trivial⟩⟩, ⟨trivial, rfl, rfl, rfl, fun _ _ => ⟨rfl, rfl, rfl, ⟨rfl, rfl, fun _ _ => rfl⟩, ⟨rfl, rfl, fun _ _ => rfl⟩, rfl, trivial⟩⟩, ⟨trivial, fun _ hi => ⟨hi, rfl, rfl, rfl, fun _ _ => ⟨rfl, trivial⟩⟩⟩, trivial⟩ (by first | exact trivial | exact ⟨⟨rfl, Nat.le_refl _, trivial⟩, trivial⟩ | exact ⟨⟨rfl, trivial, ⟨rfl, trivial, ⟨rfl, trivial, ⟨rfl, trivial, ⟨rfl, trivial, trivial⟩⟩⟩⟩⟩, trivial⟩) ?_) | (apply call0_ (g := 117); refine call_write [.all 0, .all 1, .all 2, .all 3, .all 4] hc hn hl ht ⟨hf.hat.1, (hf.hlk (Or.inr (hst5 ‹_› ‹_› ‹_› ‹_› ‹_›))).1⟩ hf.hpt (hf.hlk (Or.inr (hst5 ‹_› ‹_› ‹_› ‹_› ‹_›))).2 hf.hpc hf.hrd hnl rfl ⟨rfl, rfl, trivial⟩ ⟨⟨trivial, rfl, ⟨rfl, rfl, fun _ _ => rfl⟩, ⟨rfl, rfl, fun _ _ => rfl⟩, rfl, rfl, rfl, rfl, trivial⟩, ⟨trivial, rfl, rfl, rfl, fun _ _ => ⟨rfl, rfl, rfl, trivial⟩⟩, ⟨trivial, rfl, rfl, rfl, fun _ _ => ⟨rfl, rfl, rfl, rfl, rfl, rfl, rfl, rfl, ⟨rfl, rfl, fun _ _ => rfl⟩, ⟨rfl, rfl, fun _ _ => rfl⟩, ⟨rfl, rfl, fun _ _ => rfl⟩, rfl, rfl, trivial⟩⟩, ⟨trivial, rfl, rfl, rfl, fun _ _ => ⟨rfl, rfl, rfl, ⟨rfl, rfl, fun _ _ => rfl⟩, ⟨rfl, rfl, fun _ _ => rfl⟩, rfl, trivial⟩⟩, ⟨trivial, fun _ hi => ⟨hi, rfl, rfl, rfl, fun _ _ => ⟨rfl, trivial⟩⟩⟩, trivial⟩ (by first | exact trivial | exact ⟨⟨rfl, Nat.le_refl _, trivial⟩, trivial⟩ | exact ⟨⟨rfl, trivial, ⟨rfl, trivial, ⟨rfl, trivial, ⟨rfl, trivial, ⟨rfl, trivial, trivial⟩⟩⟩⟩⟩, trivial⟩) ?_) | (exact Nat.succ_le_of_lt (by omega)) | (simp only [Int.toNat_natCast, if_true]))
  all_goals (try simp only [Int.toNat_natCast] at *)
  all_goals first | omega | skip
  · rename_i h0
    have e : tryS s t ds = (beginS s t) := by simp only [tryS]; rw [if_pos h0]
    rw [e]
    have hle : ((beginS s t)).log.length = nl := hl
    rw [hle]
    apply ret_ []
    apply retAt_ [.all 0, .gone 1, .gone 2, .gone 3, .gone 4, .all 1, .all 2, .all 3, .all 4] (.t []) [wB p (beginS s t) nc nt nl 5 6 7, .dead, .dead, .dead, .dead, wC (beginS s t) nc, wT (beginS s t) nt 8, wL (beginS s t) nl, wR (beginS s t) nt] rfl rfl
    · trivial
    · exact ⟨⟨trivial, rfl, ⟨rfl, rfl, fun _ _ => rfl⟩, ⟨rfl, rfl, fun _ _ => rfl⟩, rfl, rfl, rfl, rfl, trivial⟩, trivial, trivial, trivial, trivial, ⟨trivial, rfl, rfl, rfl, fun _ _ => ⟨rfl, rfl, rfl, trivial⟩⟩, ⟨trivial, rfl, rfl, rfl, fun _ _ => ⟨rfl, rfl, rfl, rfl, rfl, rfl, rfl, rfl, ⟨rfl, rfl, fun _ _ => rfl⟩, ⟨rfl, rfl, fun _ _ => rfl⟩, ⟨rfl, rfl, fun _ _ => rfl⟩, rfl, rfl, trivial⟩⟩, ⟨trivial, rfl, rfl, rfl, fun _ _ => ⟨rfl, rfl, rfl, ⟨rfl, rfl, fun _ _ => rfl⟩, ⟨rfl, rfl, fun _ _ => rfl⟩, rfl, trivial⟩⟩, ⟨trivial, fun _ hi => ⟨hi, rfl, rfl, rfl, fun _ _ => ⟨rfl, trivial⟩⟩⟩, trivial⟩
    · exact ⟨rfl, rfl⟩
  · rename_i h0 h1
    have e : tryS s t ds = (deedS s t ds) := by simp only [tryS]; rw [if_neg h0]; rw [if_pos h1]
    rw [e]
    apply ret_ []
    apply retAt_ [.all 0, .gone 1, .gone 2, .gone 3, .gone 4, .all 5, .all 6, .all 7, .all 8] (.t []) [wB p (deedS s t ds) nc nt ((deedS s t ds)).log.length 5 6 7, .dead, .dead, .dead, .dead, wC (deedS s t ds) nc, wT (deedS s t ds) nt 8, wL (deedS s t ds) ((deedS s t ds)).log.length, wR (deedS s t ds) nt] rfl rfl
    · trivial
    · exact ⟨⟨trivial, rfl, ⟨rfl, rfl, fun _ _ => rfl⟩, ⟨rfl, rfl, fun _ _ => rfl⟩, rfl, rfl, rfl, rfl, trivial⟩, trivial, trivial, trivial, trivial, ⟨trivial, rfl, rfl, rfl, fun _ _ => ⟨rfl, rfl, rfl, trivial⟩⟩, ⟨trivial, rfl, rfl, rfl, fun _ _ => ⟨rfl, rfl, rfl, rfl, rfl, rfl, rfl, rfl, ⟨rfl, rfl, fun _ _ => rfl⟩, ⟨rfl, rfl, fun _ _ => rfl⟩, ⟨rfl, rfl, fun _ _ => rfl⟩, rfl, rfl, trivial⟩⟩, ⟨trivial, rfl, rfl, rfl, fun _ _ => ⟨rfl, rfl, rfl, ⟨rfl, rfl, fun _ _ => rfl⟩, ⟨rfl, rfl, fun _ _ => rfl⟩, rfl, trivial⟩⟩, ⟨trivial, fun _ hi => ⟨hi, rfl, rfl, rfl, fun _ _ => ⟨rfl, trivial⟩⟩⟩, trivial⟩
    · exact ⟨rfl, rfl⟩
  · rename_i h0 h1 h2
    have e : tryS s t ds = (lockS s t) := by simp only [tryS]; rw [if_neg h0]; rw [if_neg h1]; rw [if_pos h2]
    rw [e]
    have hle : ((lockS s t)).log.length = nl := by rw [lockS_log]; exact hl
    rw [hle]
    apply ret_ []
    apply retAt_ [.all 0, .gone 1, .gone 2, .gone 3, .gone 4, .all 5, .all 6, .all 7, .all 8] (.t []) [wB p (lockS s t) nc nt nl 5 6 7, .dead, .dead, .dead, .dead, wC (lockS s t) nc, wT (lockS s t) nt 8, wL (lockS s t) nl, wR (lockS s t) nt] rfl rfl
    · trivial
    · exact ⟨⟨trivial, rfl, ⟨rfl, rfl, fun _ _ => rfl⟩, ⟨rfl, rfl, fun _ _ => rfl⟩, rfl, rfl, rfl, rfl, trivial⟩, trivial, trivial, trivial, trivial, ⟨trivial, rfl, rfl, rfl, fun _ _ => ⟨rfl, rfl, rfl, trivial⟩⟩, ⟨trivial, rfl, rfl, rfl, fun _ _ => ⟨rfl, rfl, rfl, rfl, rfl, rfl, rfl, rfl, ⟨rfl, rfl, fun _ _ => rfl⟩, ⟨rfl, rfl, fun _ _ => rfl⟩, ⟨rfl, rfl, fun _ _ => rfl⟩, rfl, rfl, trivial⟩⟩, ⟨trivial, rfl, rfl, rfl, fun _ _ => ⟨rfl, rfl, rfl, ⟨rfl, rfl, fun _ _ => rfl⟩, ⟨rfl, rfl, fun _ _ => rfl⟩, rfl, trivial⟩⟩, ⟨trivial, fun _ hi => ⟨hi, rfl, rfl, rfl, fun _ _ => ⟨rfl, trivial⟩⟩⟩, trivial⟩
    · exact ⟨rfl, rfl⟩
  · rename_i h0 h1 h2 h3
    apply cut_ (fun u : Unit => True) (fun u : Unit => (⟨67, [(0, ptr 0), (1, int t)], [wB p S1 nc nt nl 1 2 3, wC S1 nc, wT S1 nt 4, wL S1 nl, wR S1 nt], []⟩ : St))
    · rw [hR1]
      subst hS1
      repeat' ((conv => whnf); first | (refine And.intro ?_ ?_) | (intro _) | (exact Nat.succ_le_of_lt (by omega)) | (simp only [Int.toNat_natCast, if_true]))
      all_goals (try simp only [Int.toNat_natCast] at *)
      all_goals first | omega | skip
      (apply to_ []; apply toAt_ [.all 0, .all 1, .all 2, .all 3, .all 4] (); rotate_left 1; exact ⟨rfl, rfl, rfl, rfl, ⟨rfl, rfl, trivial⟩, ⟨trivial, rfl, ⟨rfl, rfl, fun _ _ => rfl⟩, ⟨rfl, rfl, fun _ _ => rfl⟩, rfl, rfl, rfl, rfl, trivial⟩, ⟨trivial, rfl, rfl, rfl, fun _ _ => ⟨rfl, rfl, rfl, trivial⟩⟩, ⟨trivial, rfl, rfl, rfl, setLeJ (fun j x => eTaskO x 4 j) hn (fun _ _ _ => ⟨rfl, rfl, rfl, rfl, rfl, rfl, rfl, rfl, ⟨rfl, rfl, fun _ _ => rfl⟩, ⟨rfl, rfl, fun _ _ => rfl⟩, ⟨rfl, rfl, fun _ _ => rfl⟩, rfl, rfl, trivial⟩) ⟨rfl, rfl, rfl, rfl, rfl, rfl, rfl, rfl, ⟨rfl, rfl, fun _ _ => rfl⟩, ⟨rfl, rfl, fun _ _ => rfl⟩, ⟨rfl, rfl, fun _ _ => rfl⟩, rfl, rfl, trivial⟩⟩, ⟨trivial, rfl, rfl, rfl, fun _ _ => ⟨rfl, rfl, rfl, ⟨rfl, rfl, fun _ _ => rfl⟩, ⟨rfl, rfl, fun _ _ => rfl⟩, rfl, trivial⟩⟩, ⟨trivial, fun _ hi => ⟨hi, rfl, rfl, rfl, fun _ _ => ⟨rfl, trivial⟩⟩⟩, trivial⟩)
      trivial
    · intro _ _
      have e : tryS s t ds = setT S1 t { tk S1 t with stage := 4, at_ := 0 } := by
        simp only [tryS]; rw [if_neg h0, if_neg h1, if_neg h2, if_pos h3, hS1, tk_setT (by show t < s.tasks.length; omega), setT_setT]
      have hR5 : wR (setT S1 t { tk S1 t with stage := 4, at_ := 0 }) nt = wR S1 nt := wR_set rfl
      have hle : (setT S1 t { tk S1 t with stage := 4, at_ := 0 }).log.length = nl := hl1
      rw [e, hle]
      repeat' ((conv => whnf); first | (refine And.intro ?_ ?_) | (intro _) | (apply call0_ (g := 115); refine call_stage [.all 0, .all 1, .all 2, .all 3, .all 4] (s := S1) hn1 ht rfl ⟨rfl, rfl, rfl, trivial⟩ ⟨⟨trivial, rfl, ⟨rfl, rfl, fun _ _ => rfl⟩, ⟨rfl, rfl, fun _ _ => rfl⟩, rfl, rfl, rfl, rfl, trivial⟩, ⟨trivial, rfl, rfl, rfl, fun _ _ => ⟨rfl, rfl, rfl, trivial⟩⟩, ⟨trivial, rfl, rfl, rfl, fun _ _ => ⟨rfl, rfl, rfl, rfl, rfl, rfl, rfl, rfl, ⟨rfl, rfl, fun _ _ => rfl⟩, ⟨rfl, rfl, fun _ _ => rfl⟩, ⟨rfl, rfl, fun _ _ => rfl⟩, rfl, rfl, trivial⟩⟩, ⟨trivial, rfl, rfl, rfl, fun _ _ => ⟨rfl, rfl, rfl, ⟨rfl, rfl, fun _ _ => rfl⟩, ⟨rfl, rfl, fun _ _ => rfl⟩, rfl, trivial⟩⟩, ⟨trivial, fun _ hi => ⟨hi, rfl, rfl, rfl, fun _ _ => ⟨rfl, trivial⟩⟩⟩, trivial⟩ (by first | exact trivial | exact ⟨⟨rfl, Nat.le_refl _, trivial⟩, trivial⟩ | exact ⟨⟨rfl, trivial, ⟨rfl, trivial, ⟨rfl, trivial, ⟨rfl, trivial, ⟨rfl, trivial, trivial⟩⟩⟩⟩⟩, trivial⟩) ?_))
      apply ret_ []
      apply retAt_ [.all 0, .gone 1, .gone 2, .gone 3, .gone 4, .all 1, .all 2, .all 3, .all 4] (.t []) [wB p S1 nc nt nl 5 6 7, .dead, .dead, .dead, .dead, wC S1 nc, wT (setT S1 t { tk S1 t with stage := 4, at_ := 0 }) nt 8, wL S1 nl, wR S1 nt] rfl rfl
      · trivial
      · exact ⟨⟨trivial, rfl, ⟨rfl, rfl, fun _ _ => rfl⟩, ⟨rfl, rfl, fun _ _ => rfl⟩, rfl, rfl, rfl, rfl, trivial⟩, trivial, trivial, trivial, trivial, ⟨trivial, rfl, rfl, rfl, fun _ _ => ⟨rfl, rfl, rfl, trivial⟩⟩, ⟨trivial, rfl, rfl, rfl, fun _ _ => ⟨rfl, rfl, rfl, rfl, rfl, rfl, rfl, rfl, ⟨rfl, rfl, fun _ _ => rfl⟩, ⟨rfl, rfl, fun _ _ => rfl⟩, ⟨rfl, rfl, fun _ _ => rfl⟩, rfl, rfl, trivial⟩⟩, ⟨trivial, rfl, rfl, rfl, fun _ _ => ⟨rfl, rfl, rfl, ⟨rfl, rfl, fun _ _ => rfl⟩, ⟨rfl, rfl, fun _ _ => rfl⟩, rfl, trivial⟩⟩, ⟨trivial, fun _ hi => ⟨hi, rfl, rfl, rfl, fun _ _ => ⟨rfl, trivial⟩⟩⟩, trivial⟩
      · exact ⟨by rw [hR5]; rfl, rfl⟩
  · rename_i h0 h1 h2 h3 h4
    have e : tryS s t ds = (checkS s t) := by simp only [tryS]; rw [if_neg h0]; rw [if_neg h1]; rw [if_neg h2]; rw [if_neg h3]; rw [if_pos h4]
    rw [e]
    have hle : ((checkS s t)).log.length = nl := by rw [checkS_log]; exact hl
    rw [hle]
    apply ret_ []
    apply retAt_ [.all 0, .gone 1, .gone 2, .gone 3, .gone 4, .all 5, .all 6, .all 7, .all 8] (.t []) [wB p (checkS s t) nc nt nl 5 6 7, .dead, .dead, .dead, .dead, wC (checkS s t) nc, wT (checkS s t) nt 8, wL (checkS s t) nl, wR (checkS s t) nt] rfl rfl
    · trivial
    · exact ⟨⟨trivial, rfl, ⟨rfl, rfl, fun _ _ => rfl⟩, ⟨rfl, rfl, fun _ _ => rfl⟩, rfl, rfl, rfl, rfl, trivial⟩, trivial, trivial, trivial, trivial, ⟨trivial, rfl, rfl, rfl, fun _ _ => ⟨rfl, rfl, rfl, trivial⟩⟩, ⟨trivial, rfl, rfl, rfl, fun _ _ => ⟨rfl, rfl, rfl, rfl, rfl, rfl, rfl, rfl, ⟨rfl, rfl, fun _ _ => rfl⟩, ⟨rfl, rfl, fun _ _ => rfl⟩, ⟨rfl, rfl, fun _ _ => rfl⟩, rfl, rfl, trivial⟩⟩, ⟨trivial, rfl, rfl, rfl, fun _ _ => ⟨rfl, rfl, rfl, ⟨rfl, rfl, fun _ _ => rfl⟩, ⟨rfl, rfl, fun _ _ => rfl⟩, rfl, trivial⟩⟩, ⟨trivial, fun _ hi => ⟨hi, rfl, rfl, rfl, fun _ _ => ⟨rfl, trivial⟩⟩⟩, trivial⟩
    · exact ⟨rfl, rfl⟩
  · rename_i h0 h1 h2 h3 h4
    have e : tryS s t ds = (writeS s t) := by simp only [tryS]; rw [if_neg h0]; rw [if_neg h1]; rw [if_neg h2]; rw [if_neg h3]; rw [if_neg h4]
    rw [e]
    apply ret_ []
    apply retAt_ [.all 0, .gone 1, .gone 2, .gone 3, .gone 4, .all 5, .all 6, .all 7, .all 8] (.t []) [wB p (writeS s t) nc nt ((writeS s t)).log.length 5 6 7, .dead, .dead, .dead, .dead, wC (writeS s t) nc, wT (writeS s t) nt 8, wL (writeS s t) ((writeS s t)).log.length, wR (writeS s t) nt] rfl rfl
    · trivial
    · exact ⟨⟨trivial, rfl, ⟨rfl, rfl, fun _ _ => rfl⟩, ⟨rfl, rfl, fun _ _ => rfl⟩, rfl, rfl, rfl, rfl, trivial⟩, trivial, trivial, trivial, trivial, ⟨trivial, rfl, rfl, rfl, fun _ _ => ⟨rfl, rfl, rfl, trivial⟩⟩, ⟨trivial, rfl, rfl, rfl, fun _ _ => ⟨rfl, rfl, rfl, rfl, rfl, rfl, rfl, rfl, ⟨rfl, rfl, fun _ _ => rfl⟩, ⟨rfl, rfl, fun _ _ => rfl⟩, ⟨rfl, rfl, fun _ _ => rfl⟩, rfl, rfl, trivial⟩⟩, ⟨trivial, rfl, rfl, rfl, fun _ _ => ⟨rfl, rfl, rfl, ⟨rfl, rfl, fun _ _ => rfl⟩, ⟨rfl, rfl, fun _ _ => rfl⟩, rfl, trivial⟩⟩, ⟨trivial, fun _ hi => ⟨hi, rfl, rfl, rfl, fun _ _ => ⟨rfl, trivial⟩⟩⟩, trivial⟩
    · exact ⟨rfl, rfl⟩
theorem callx_try_ {al0 : Lim} {s0 : St} {as0 : List Operand} {d0 : Option Tmp} {K0 : St → Prop} {p : DProg} {s : DSys} {nc nt nl t : Nat} {ds : List Deed} (ρ : List Sel) (cok_ : CallOK prog 105 [ptr 0, int t, lst 3 eDeed ds] [wB p s nc nt nl 1 2 3, wC s nc, wT s nt 4, wL s nl, wR s nt] (fun r os => os = [wB p (tryS s t ds) nc nt (tryS s t ds).log.length 5 6 7, .dead, .dead, .dead, .dead, wC (tryS s t ds) nc, wT (tryS s t ds) nt 8, wL (tryS s t ds) (tryS s t ds).log.length, wR (tryS s t ds) nt] ∧ r = .t [])) (cn_ : nodupB (keysOf ρ) = true) (ca_ : tvsLe ρ s0.loc.length (as0.map (ev s0)) [ptr 0, int t, lst 3 eDeed ds]) (co_ : locLe ρ s0.loc.length s0.loc s0.fz ρ [wB p s nc nt nl 1 2 3, wC s nc, wT s nt 4, wL s nl, wR s nt]) (cl_ : limP al0 s0.loc ρ True) (ck_ : placesK s0.loc ρ ([wB p (tryS s t ds) nc nt (tryS s t ds).log.length 5 6 7, .dead, .dead, .dead, .dead, wC (tryS s t ds) nc, wT (tryS s t ds) nt 8, wL (tryS s t ds) (tryS s t ds).log.length, wR (tryS s t ds) nt].map (AObj.up ρ s0.loc.length)) fun loc' => s0.afterK loc' d0 ((.t [] : TV).up ρ s0.loc.length) K0) : CallAt prog al0 s0 105 as0 d0 K0 :=
  callB ρ cok_ cn_ ca_ co_ cl_ (by rintro r os ⟨rfl, rfl⟩; exact ck_ )
theorem call_try_ {al0 : Lim} {s0 : St} {as0 : List Operand} {d0 : Option Tmp} {K0 : St → Prop} {p : DProg} {s : DSys} {nc nt nl t : Nat} {ds : List Deed} (ρ : List Sel) (hc : s.cells.length = nc) (hn : s.tasks.length = nt) (hl : s.log.length = nl) (ht : t < nt) (hf : Fit nc (tk s t)) (hnl : nl ≤ 1000000000) (hck : 0 ≤ s.clock ∧ s.clock ≤ 1000000) (hd : (tk s t).stage = 1 → (tk s t).at_ < ds.length → deedP (ds.getD (tk s t).at_.toNat default) nc) (cn_ : nodupB (keysOf ρ) = true) (ca_ : tvsLe ρ s0.loc.length (as0.map (ev s0)) [ptr 0, int t, lst 3 eDeed ds]) (co_ : locLe ρ s0.loc.length s0.loc s0.fz ρ [wB p s nc nt nl 1 2 3, wC s nc, wT s nt 4, wL s nl, wR s nt]) (cl_ : limP al0 s0.loc ρ True) (ck_ : placesK s0.loc ρ ([wB p (tryS s t ds) nc nt (tryS s t ds).log.length 5 6 7, .dead, .dead, .dead, .dead, wC (tryS s t ds) nc, wT (tryS s t ds) nt 8, wL (tryS s t ds) (tryS s t ds).log.length, wR (tryS s t ds) nt].map (AObj.up ρ s0.loc.length)) fun loc' => s0.afterK loc' d0 ((.t [] : TV).up ρ s0.loc.length) K0) : CallAt prog al0 s0 105 as0 d0 K0 :=
  callx_try_ ρ (try__ok p s nc nt nl t ds hc hn hl ht hf hnl hck hd) cn_ ca_ co_ cl_ ck_
end Go.Proofs.AYT
