/- A symbolic executor over the model, plain words, and contracts of the program's functions, part 9. Conditions: as each theorem tells. -/
import Derived.Test.YteippbbcihgabaaAyB08
import Derived.Test.YteippbbcihgabaaAyB07
set_option linter.unusedVariables false
set_option linter.unusedSimpArgs false
set_option linter.unusedSectionVars false
namespace Go.Proofs.AYT
open Go Go.Proofs.AY Go.Proofs.Try
def plans91 : Plans := [(7, ⟨.take 0 false (.take 2 false (.take 4 false (.take 1 true (.take 3 true (.take 5 false (.take 6 true (.take 7 false (.alt 8 (.alt 9 (.take 10 false (.alt 11 .done .done)) .done) .done)))))))), [9, 11], []⟩)]
theorem plans91_ok : plansOk plans91 (bodyOf f91) = true := by kernel_rfl
theorem SysNew_ok (p : DProg) (hp : progOk p = true) : CallOK prog 91 [.a (eProg p)] [] (fun r os => os = [] ∧ r = .t [.a (eSys (sysNew p)), .c (.v (.bool true))]) := by
  refine fn_ [] tab_ok hmo func91 rfl rfl plans91_ok rfl ?_
  have hl := formOk_len (p := p) (by unfold progOk at hp; rw [Bool.and_eq_true] at hp; exact hp.1)
  repeat' ((conv => whnf); first | (refine And.intro ?_ ?_) | (intro _) | (apply call0_ (g := 55); refine call_ProgOk []  rfl ⟨⟨⟨rfl, rfl, fun _ _ => rfl⟩, ⟨rfl, rfl, fun _ _ => rfl⟩, trivial⟩, trivial⟩ trivial (by first | exact trivial | exact ⟨trivial, trivial⟩) ?_ ?_) | (apply call0_ (g := 102); refine call_l11Task []  rfl ⟨rfl, rfl, trivial⟩ trivial (by first | exact trivial | exact ⟨trivial, trivial⟩) ?_))
  · apply loop_ (fun ((i, m, cs) : (Nat) × (Nat) × (List DCell)) => i ≤ p.cells.length ∧ cs.length = m ∧ cs = (p.cells.take i).map newCell) (fun ((i, m, cs) : (Nat) × (Nat) × (List DCell)) => (⟨34, [(1, ptr 0), (2, ptr 1), (4, ptr 5), (5, int i)], [.box 44 (eProg p), .box 27 [.v (.slice none 0 0), .v (.slice none 0 0), iv 0, .v (.slice none 0 0)], .row 33 3 m (fun j => eCell (cs.getD j default)), .row 49 13 1 (fun j => eTask ([newTask 0 (-1)].getD j default)), .row 40 6 0 (fun j => eEntry (([] : List Entry).getD j default)), .box 27 [.s ⟨2, 0⟩ m, .s ⟨3, 0⟩ 1, iv 0, .s ⟨4, 0⟩ 0]], []⟩ : St)) (fun ((i, m, cs) : (Nat) × (Nat) × (List DCell)) => p.cells.length - i)
    · (apply to_ []; apply toAt_ [.all 0, .all 1, .all 2, .all 3, .all 4, .all 5] (0, 0, []); rotate_left 1; exact ⟨rfl, rfl, rfl, rfl, ⟨rfl, rfl, rfl, rfl, trivial⟩, ⟨trivial, rfl, ⟨rfl, rfl, fun _ _ => rfl⟩, ⟨rfl, rfl, fun _ _ => rfl⟩, trivial⟩, ⟨trivial, rfl, rfl, rfl, rfl, rfl, trivial⟩, ⟨trivial, rfl, rfl, rfl, fun j hj => absurd hj (Nat.not_lt_zero _)⟩, ⟨trivial, rfl, rfl, rfl, (fun j hj => by (rcases j with _ | j; exact ⟨rfl, rfl, rfl, ⟨rfl, rfl, fun _ _ => rfl⟩, rfl, rfl, rfl, rfl, ⟨rfl, rfl, fun _ _ => rfl⟩, ⟨rfl, rfl, fun _ _ => rfl⟩, ⟨rfl, rfl, fun _ _ => rfl⟩, rfl, rfl, trivial⟩; omega))⟩, ⟨trivial, rfl, rfl, rfl, fun j hj => absurd hj (Nat.not_lt_zero _)⟩, ⟨trivial, rfl, rfl, rfl, rfl, rfl, trivial⟩, trivial⟩)
      exact ⟨Nat.zero_le _, rfl, rfl⟩
    · rintro ⟨i, m, cs⟩ ⟨h1, h2, h3⟩
      have hm : m = min i p.cells.length := by rw [← h2, h3]; simp
      repeat' ((conv => whnf); first | (refine And.intro ?_ ?_) | (intro _))
      all_goals first | omega | (simp only [ti33]; omega) | rfl | skip
      · (apply to_ []; apply toAt_ [.all 0, .all 1, .all 7, .all 3, .all 4, .all 5] (i + 1, m + 1, cs ++ [newCell (p.cells.getD i default)]); rotate_left 1; exact ⟨rfl, rfl, rfl, rfl, ⟨rfl, rfl, rfl, rfl, trivial⟩, ⟨trivial, rfl, ⟨rfl, rfl, fun _ _ => rfl⟩, ⟨rfl, rfl, fun _ _ => rfl⟩, trivial⟩, ⟨trivial, rfl, rfl, rfl, rfl, rfl, trivial⟩, ⟨trivial, rfl, rfl, rfl, snocLe (by assumption) (fun _ _ => ⟨rfl, rfl, rfl, trivial⟩) (fun _ => ⟨rfl, rfl, rfl, trivial⟩)⟩, ⟨trivial, rfl, rfl, rfl, (fun _ _ => ⟨rfl, rfl, rfl, ⟨rfl, rfl, fun _ _ => rfl⟩, rfl, rfl, rfl, rfl, ⟨rfl, rfl, fun _ _ => rfl⟩, ⟨rfl, rfl, fun _ _ => rfl⟩, ⟨rfl, rfl, fun _ _ => rfl⟩, rfl, rfl, trivial⟩)⟩, ⟨trivial, rfl, rfl, rfl, fun j hj => absurd hj (Nat.not_lt_zero _)⟩, ⟨trivial, rfl, rfl, rfl, rfl, rfl, trivial⟩, trivial⟩)
        refine ⟨⟨by omega, by simp [h2], ?_⟩, by (try simp only); omega⟩
        rw [take_snoc _ _ (by omega), List.map_append, h3]; rfl
      · rw [List.take_of_length_le (by omega)] at h3
        subst h3
        apply ret_ [2, 3, 4]
        refine And.intro (fun _ _ => rfl) ?_
        refine And.intro (fun _ _ => rfl) ?_
        refine And.intro (fun _ _ => rfl) ?_
        apply retAt0 (r := .t [.a (eSys (sysNew p)), .c (.v (.bool true))])
        · exact ⟨⟨⟨rfl, h2.symm, fun _ _ => rfl⟩, ⟨rfl, rfl, fun _ _ => rfl⟩, rfl, ⟨rfl, rfl, fun j hj => absurd hj (Nat.not_lt_zero _)⟩, trivial⟩, rfl, trivial⟩
        · exact ⟨rfl, rfl⟩
  · rename_i hf
    rw [hp] at hf
    cases hf
theorem callx_SysNew {al0 : Lim} {s0 : St} {as0 : List Operand} {d0 : Option Tmp} {K0 : St → Prop} {p : DProg} (ρ : List Sel) (cok_ : CallOK prog 91 [.a (eProg p)] [] (fun r os => os = [] ∧ r = .t [.a (eSys (sysNew p)), .c (.v (.bool true))])) (cn_ : nodupB (keysOf ρ) = true) (ca_ : tvsLe ρ s0.loc.length (as0.map (ev s0)) [.a (eProg p)]) (co_ : locLe ρ s0.loc.length s0.loc s0.fz ρ []) (cl_ : limP al0 s0.loc ρ True) (ck_ : placesK s0.loc ρ ([].map (AObj.up ρ s0.loc.length)) fun loc' => s0.afterK loc' d0 ((.t [.a (eSys (sysNew p)), .c (.v (.bool true))] : TV).up ρ s0.loc.length) K0) : CallAt prog al0 s0 91 as0 d0 K0 :=
  callB ρ cok_ cn_ ca_ co_ cl_ (by rintro r os ⟨rfl, rfl⟩; exact ck_ )
theorem call_SysNew {al0 : Lim} {s0 : St} {as0 : List Operand} {d0 : Option Tmp} {K0 : St → Prop} {p : DProg} (ρ : List Sel) (hp : progOk p = true) (cn_ : nodupB (keysOf ρ) = true) (ca_ : tvsLe ρ s0.loc.length (as0.map (ev s0)) [.a (eProg p)]) (co_ : locLe ρ s0.loc.length s0.loc s0.fz ρ []) (cl_ : limP al0 s0.loc ρ True) (ck_ : placesK s0.loc ρ ([].map (AObj.up ρ s0.loc.length)) fun loc' => s0.afterK loc' d0 ((.t [.a (eSys (sysNew p)), .c (.v (.bool true))] : TV).up ρ s0.loc.length) K0) : CallAt prog al0 s0 91 as0 d0 K0 :=
  callx_SysNew ρ (SysNew_ok p hp) cn_ ca_ co_ cl_ ck_
end Go.Proofs.AYT
namespace Go.Proofs.AYT
open Go Go.Proofs.AY Go.Proofs.Try
theorem l11Puts_ok (l : List Put) (hl : l.length ≤ 1099511627776) : CallOK prog 87 [lst 2 ePut l] [] (fun r os => os = [] ∧ r = lst 2 ePut l) := by
  refine fn_ (D := []) [] tab_ok hmo func87 rfl rfl rfl rfl ?_
  repeat' ((conv => whnf); first | (refine And.intro ?_ ?_) | (intro _))
  all_goals first | omega | (simp only [ti51]; omega) | skip
  apply ret_ [1]
  refine And.intro (fun _ _ => rfl) ?_
  apply retAt0 (r := lst 2 ePut l)
  · exact ⟨rfl, Nat.zero_add _, fun _ _ => rfl⟩
  · exact ⟨rfl, rfl⟩
theorem callx_l11Puts {al0 : Lim} {s0 : St} {as0 : List Operand} {d0 : Option Tmp} {K0 : St → Prop} {l : List Put} (ρ : List Sel) (cok_ : CallOK prog 87 [lst 2 ePut l] [] (fun r os => os = [] ∧ r = lst 2 ePut l)) (cn_ : nodupB (keysOf ρ) = true) (ca_ : tvsLe ρ s0.loc.length (as0.map (ev s0)) [lst 2 ePut l]) (co_ : locLe ρ s0.loc.length s0.loc s0.fz ρ []) (cl_ : limP al0 s0.loc ρ True) (ck_ : placesK s0.loc ρ ([].map (AObj.up ρ s0.loc.length)) fun loc' => s0.afterK loc' d0 ((lst 2 ePut l : TV).up ρ s0.loc.length) K0) : CallAt prog al0 s0 87 as0 d0 K0 :=
  callB ρ cok_ cn_ ca_ co_ cl_ (by rintro r os ⟨rfl, rfl⟩; exact ck_ )
theorem call_l11Puts {al0 : Lim} {s0 : St} {as0 : List Operand} {d0 : Option Tmp} {K0 : St → Prop} {l : List Put} (ρ : List Sel) (hl : l.length ≤ 1099511627776) (cn_ : nodupB (keysOf ρ) = true) (ca_ : tvsLe ρ s0.loc.length (as0.map (ev s0)) [lst 2 ePut l]) (co_ : locLe ρ s0.loc.length s0.loc s0.fz ρ []) (cl_ : limP al0 s0.loc ρ True) (ck_ : placesK s0.loc ρ ([].map (AObj.up ρ s0.loc.length)) fun loc' => s0.afterK loc' d0 ((lst 2 ePut l : TV).up ρ s0.loc.length) K0) : CallAt prog al0 s0 87 as0 d0 K0 :=
  callx_l11Puts ρ (l11Puts_ok l hl) cn_ ca_ co_ cl_ ck_

def plans123 : Plans := [(6, ⟨.take 0 false (.take 1 false (.take 2 false (.take 3 false (.take 4 false (.take 5 false (.take 6 false (.take 8 false (.take 7 true (.take 9 true (.take 10 false (.take 11 false .done))))))))))), [], []⟩),
  (9, ⟨.take 0 false (.take 1 false (.take 2 false (.take 3 false (.take 5 false (.take 4 true (.take 6 true (.take 7 false .done))))))), [], []⟩)]
theorem plans123_ok : plansOk plans123 (bodyOf f123) = true := by kernel_rfl
theorem l11Add_ok (l : List Put) (x : Put) (hl : l.length ≤ 1099511627776) : CallOK prog 123 [lst 2 ePut l, .a (ePut x)] [] (fun r os => os = [] ∧ r = lst 2 ePut (addP l x)) := by
  refine fn_ [] tab_ok hmo func123 rfl rfl plans123_ok rfl ?_
  repeat' ((conv => whnf); first | (refine And.intro ?_ ?_) | (intro _))
  apply loop_ (fun ((i, m, o, d) : (Nat) × (Nat) × (List Put) × (Bool)) => i ≤ l.length ∧ o.length = m ∧ m ≤ 2 * i ∧ (o, d) = (l.take i).foldl (addS x) ([], false)) (fun ((i, m, o, d) : (Nat) × (Nat) × (List Put) × (Bool)) => (⟨53, [(0, lst 2 ePut l), (3, ptr 0), (5, .c (.s ⟨1, 0⟩ m)), (6, bl d), (7, int i)], [.box 51 (ePut x), .row 51 2 m (fun j => ePut (o.getD j default))], []⟩ : St)) (fun ((i, m, o, d) : (Nat) × (Nat) × (List Put) × (Bool)) => l.length - i)
  · (apply to_ []; apply toAt_ [.all 0, .all 1] (0, 0, [], false); rotate_left 1; exact ⟨rfl, rfl, rfl, rfl, ⟨⟨rfl, rfl, fun _ _ => rfl⟩, rfl, rfl, rfl, rfl, trivial⟩, ⟨trivial, rfl, rfl, rfl, trivial⟩, ⟨trivial, rfl, rfl, rfl, fun j hj => absurd hj (Nat.not_lt_zero _)⟩, trivial⟩)
    exact ⟨Nat.zero_le _, rfl, Nat.le_refl _, rfl⟩
  · rintro ⟨i, m, o, d⟩ ⟨h1, h2, h3, h4⟩
    have hs : i < l.length → (l.take (i + 1)).foldl (addS x) ([], false) = addS x (o, d) (l.getD i default) := fun hi => by rw [take_snoc _ _ hi, List.foldl_append, ← h4]; rfl
    have hx : ¬ i < l.length → addP l x = if d then o else o ++ [x] := fun hi => by
      rw [List.take_of_length_le (by omega)] at h4
      unfold addP; rw [← h4]
    cases d with
    | false =>
      repeat' ((conv => whnf); first | (refine And.intro ?_ ?_) | (intro _))
      all_goals (try simp only [Int.toNat_natCast] at *)
      all_goals first | omega | (simp only [ti51]; omega) | skip
      · (apply to_ []; apply toAt_ [.all 0, .all 5] (i + 1, m + 1 + 1, o ++ [x] ++ [l.getD i default], true); rotate_left 1; exact ⟨rfl, rfl, rfl, rfl, ⟨⟨rfl, rfl, fun _ _ => rfl⟩, rfl, rfl, rfl, rfl, trivial⟩, ⟨trivial, rfl, rfl, rfl, trivial⟩, ⟨trivial, rfl, rfl, rfl, snocLe (by simp [h2]) (snocLe h2 (fun _ _ => ⟨rfl, rfl, trivial⟩) (fun _ => ⟨rfl, rfl, trivial⟩)) (fun _ => ⟨rfl, rfl, trivial⟩)⟩, trivial⟩)
        exact ⟨⟨by omega, by simp [h2], by (try simp only); omega, by rw [hs (by omega), addS_1 (by assumption) (by assumption)]⟩, by (try simp only); omega⟩
      · (apply to_ []; apply toAt_ [.all 0, .all 3] (i + 1, m + 1, o ++ [x], true); rotate_left 1; exact ⟨rfl, rfl, rfl, rfl, ⟨⟨rfl, rfl, fun _ _ => rfl⟩, rfl, rfl, rfl, rfl, trivial⟩, ⟨trivial, rfl, rfl, rfl, trivial⟩, ⟨trivial, rfl, rfl, rfl, snocLe h2 (fun _ _ => ⟨rfl, rfl, trivial⟩) (fun _ => ⟨rfl, rfl, trivial⟩)⟩, trivial⟩)
        exact ⟨⟨by omega, by simp [h2], by (try simp only); omega, by rw [hs (by omega), addS_2 (by assumption) (by assumption)]⟩, by (try simp only); omega⟩
      · (apply to_ []; apply toAt_ [.all 0, .all 3] (i + 1, m + 1, o ++ [l.getD i default], false); rotate_left 1; exact ⟨rfl, rfl, rfl, rfl, ⟨⟨rfl, rfl, fun _ _ => rfl⟩, rfl, rfl, rfl, rfl, trivial⟩, ⟨trivial, rfl, rfl, rfl, trivial⟩, ⟨trivial, rfl, rfl, rfl, snocLe h2 (fun _ _ => ⟨rfl, rfl, trivial⟩) (fun _ => ⟨rfl, rfl, trivial⟩)⟩, trivial⟩)
        exact ⟨⟨by omega, by simp [h2], by (try simp only); omega, by rw [hs (by omega), addS_3 (by assumption)]⟩, by (try simp only); omega⟩
      · apply ret_ [.to 3 (fun j => ePut ((o ++ [x]).getD j default))]
        refine And.intro ?_ ?_
        · exact snocImm (fun _ _ => rfl) (fun _ => rfl)
        refine And.intro ?_ ?_
        · exact snocIm h2 (fun _ _ => ⟨rfl, rfl, trivial⟩) (fun _ => ⟨rfl, rfl, trivial⟩)
        apply retAt0 (r := lst 2 ePut (addP l x))
        · rw [hx (by omega)]
          exact ⟨rfl, by simp [h2], fun _ _ => rfl⟩
        · exact ⟨rfl, rfl⟩
    | true =>
      repeat' ((conv => whnf); first | (refine And.intro ?_ ?_) | (intro _))
      all_goals (try simp only [Int.toNat_natCast] at *)
      all_goals first | omega | (simp only [ti51]; omega) | skip
      · (apply to_ []; apply toAt_ [.all 0, .all 3] (i + 1, m + 1, o ++ [l.getD i default], true); rotate_left 1; exact ⟨rfl, rfl, rfl, rfl, ⟨⟨rfl, rfl, fun _ _ => rfl⟩, rfl, rfl, rfl, rfl, trivial⟩, ⟨trivial, rfl, rfl, rfl, trivial⟩, ⟨trivial, rfl, rfl, rfl, snocLe h2 (fun _ _ => ⟨rfl, rfl, trivial⟩) (fun _ => ⟨rfl, rfl, trivial⟩)⟩, trivial⟩)
        exact ⟨⟨by omega, by simp [h2], by (try simp only); omega, by rw [hs (by omega), addS_4 (by assumption)]⟩, by (try simp only); omega⟩
      · (apply to_ []; apply toAt_ [.all 0, .all 1] (i + 1, m, o, true); rotate_left 1; exact ⟨rfl, rfl, rfl, rfl, ⟨⟨rfl, rfl, fun _ _ => rfl⟩, rfl, rfl, rfl, rfl, trivial⟩, ⟨trivial, rfl, rfl, rfl, trivial⟩, ⟨trivial, rfl, rfl, rfl, (fun _ _ => ⟨rfl, rfl, trivial⟩)⟩, trivial⟩)
        exact ⟨⟨by omega, h2, by (try simp only); omega, by rw [hs (by omega), addS_5 (by assumption)]⟩, by (try simp only); omega⟩
      · apply ret_ [1]
        refine And.intro (fun _ _ => rfl) ?_
        apply retAt0 (r := lst 2 ePut (addP l x))
        · rw [hx (by omega)]
          exact ⟨rfl, h2.symm, fun _ _ => rfl⟩
        · exact ⟨rfl, rfl⟩
theorem callx_l11Add {al0 : Lim} {s0 : St} {as0 : List Operand} {d0 : Option Tmp} {K0 : St → Prop} {l : List Put} {x : Put} (ρ : List Sel) (cok_ : CallOK prog 123 [lst 2 ePut l, .a (ePut x)] [] (fun r os => os = [] ∧ r = lst 2 ePut (addP l x))) (cn_ : nodupB (keysOf ρ) = true) (ca_ : tvsLe ρ s0.loc.length (as0.map (ev s0)) [lst 2 ePut l, .a (ePut x)]) (co_ : locLe ρ s0.loc.length s0.loc s0.fz ρ []) (cl_ : limP al0 s0.loc ρ True) (ck_ : placesK s0.loc ρ ([].map (AObj.up ρ s0.loc.length)) fun loc' => s0.afterK loc' d0 ((lst 2 ePut (addP l x) : TV).up ρ s0.loc.length) K0) : CallAt prog al0 s0 123 as0 d0 K0 :=
  callB ρ cok_ cn_ ca_ co_ cl_ (by rintro r os ⟨rfl, rfl⟩; exact ck_ )
theorem call_l11Add {al0 : Lim} {s0 : St} {as0 : List Operand} {d0 : Option Tmp} {K0 : St → Prop} {l : List Put} {x : Put} (ρ : List Sel) (hl : l.length ≤ 1099511627776) (cn_ : nodupB (keysOf ρ) = true) (ca_ : tvsLe ρ s0.loc.length (as0.map (ev s0)) [lst 2 ePut l, .a (ePut x)]) (co_ : locLe ρ s0.loc.length s0.loc s0.fz ρ []) (cl_ : limP al0 s0.loc ρ True) (ck_ : placesK s0.loc ρ ([].map (AObj.up ρ s0.loc.length)) fun loc' => s0.afterK loc' d0 ((lst 2 ePut (addP l x) : TV).up ρ s0.loc.length) K0) : CallAt prog al0 s0 123 as0 d0 K0 :=
  callx_l11Add ρ (l11Add_ok l x hl) cn_ ca_ co_ cl_ ck_
end Go.Proofs.AYT
namespace Go.Proofs.AYT
open Go Go.Proofs.AY Go.Proofs.Try
abbrev eTaskO (t : Task) (r j : Nat) : List CV := [iv t.body, iv t.pc, iv t.up, .s ⟨r, j⟩ 3, iv t.way, iv t.stage, iv t.at_, iv t.since, dl 1 eI t.old, dl 2 ePut t.reads, dl 2 ePut t.puts, iv t.when, iv t.frm]
abbrev wB (p : DProg) (s : DSys) (nc nt nl c t l : Nat) : AObj := .box 120 [dl 1 eI p.cells, dl 1 eBody p.bodies, .s ⟨c, 0⟩ nc, .s ⟨t, 0⟩ nt, iv s.clock, .s ⟨l, 0⟩ nl]
abbrev wC (s : DSys) (nc : Nat) : AObj := .row 33 3 nc (fun j => eCell (s.cells.getD j default))
abbrev wT (s : DSys) (nt r : Nat) : AObj := .row 49 13 nt (fun j => eTaskO (s.tasks.getD j default) r j)
abbrev wL (s : DSys) (nl : Nat) : AObj := .row 40 6 nl (fun j => eEntry (s.log.getD j default))
abbrev wR (s : DSys) (nt : Nat) : AObj := .rows 3 1 nt 3 (fun j i => eI ((s.tasks.getD j default).regs.getD i default))

theorem wR_set {s : DSys} {t nt : Nat} {x : Task} (h : x.regs = (tk s t).regs) : wR (setT s t x) nt = wR s nt := by
  have : ∀ j, ((s.tasks.set t x).getD j default).regs = (s.tasks.getD j default).regs := set_regs h
  simp only [wR, setT, this]

theorem fails_ok (p : DProg) (s : DSys) (nc nt nl t : Nat) (hn : s.tasks.length = nt) (ht : t < nt) : CallOK prog 107 [ptr 0, int t] [wB p s nc nt nl 1 2 3, wC s nc, wT s nt 4, wL s nl, wR s nt] (fun r os => os = [wB p (setT s t { tk s t with way := 3 }) nc nt nl 1 2 3, wC (setT s t { tk s t with way := 3 }) nc, wT (setT s t { tk s t with way := 3 }) nt 4, wL (setT s t { tk s t with way := 3 }) nl, wR (setT s t { tk s t with way := 3 }) nt] ∧ r = .t []) := by
  refine fn_ (D := []) [] tab_ok hmo func107 rfl rfl rfl rfl ?_
  have hR : wR (setT s t { tk s t with way := 3 }) nt = wR s nt := wR_set rfl
  repeat' ((conv => whnf); first | (refine And.intro ?_ ?_) | (intro _))
  all_goals (try simp only [Int.toNat_natCast] at *)
  all_goals first | omega | skip
  apply ret_ []
  apply retAt_ [.all 0, .all 1, .all 2, .all 3, .all 4] (.t []) [wB p s nc nt nl 1 2 3, wC s nc, wT (setT s t { tk s t with way := 3 }) nt 4, wL s nl, wR s nt] rfl rfl
  · trivial
  · exact ⟨⟨trivial, rfl, ⟨rfl, rfl, fun _ _ => rfl⟩, ⟨rfl, rfl, fun _ _ => rfl⟩, rfl, rfl, rfl, rfl, trivial⟩, ⟨trivial, rfl, rfl, rfl, fun _ _ => ⟨rfl, rfl, rfl, trivial⟩⟩, ⟨trivial, rfl, rfl, rfl, setLeJ (fun j x => eTaskO x 4 j) hn (fun _ _ hne => by (try simp only [if_neg hne]); exact ⟨rfl, rfl, rfl, rfl, rfl, rfl, rfl, rfl, ⟨rfl, rfl, fun _ _ => rfl⟩, ⟨rfl, rfl, fun _ _ => rfl⟩, ⟨rfl, rfl, fun _ _ => rfl⟩, rfl, rfl, trivial⟩) ⟨rfl, rfl, rfl, rfl, rfl, rfl, rfl, rfl, ⟨rfl, rfl, fun _ _ => rfl⟩, ⟨rfl, rfl, fun _ _ => rfl⟩, ⟨rfl, rfl, fun _ _ => rfl⟩, rfl, rfl, trivial⟩⟩, ⟨trivial, rfl, rfl, rfl, fun _ _ => ⟨rfl, rfl, rfl, ⟨rfl, rfl, fun _ _ => rfl⟩, ⟨rfl, rfl, fun _ _ => rfl⟩, rfl, trivial⟩⟩, ⟨trivial, fun _ hi => ⟨hi, rfl, rfl, rfl, fun _ _ => ⟨rfl, trivial⟩⟩⟩, trivial⟩
  · exact ⟨by rw [hR]; rfl, rfl⟩
theorem callx_fails {al0 : Lim} {s0 : St} {as0 : List Operand} {d0 : Option Tmp} {K0 : St → Prop} {p : DProg} {s : DSys} {nc nt nl t : Nat} (ρ : List Sel) (cok_ : CallOK prog 107 [ptr 0, int t] [wB p s nc nt nl 1 2 3, wC s nc, wT s nt 4, wL s nl, wR s nt] (fun r os => os = [wB p (setT s t { tk s t with way := 3 }) nc nt nl 1 2 3, wC (setT s t { tk s t with way := 3 }) nc, wT (setT s t { tk s t with way := 3 }) nt 4, wL (setT s t { tk s t with way := 3 }) nl, wR (setT s t { tk s t with way := 3 }) nt] ∧ r = .t [])) (cn_ : nodupB (keysOf ρ) = true) (ca_ : tvsLe ρ s0.loc.length (as0.map (ev s0)) [ptr 0, int t]) (co_ : locLe ρ s0.loc.length s0.loc s0.fz ρ [wB p s nc nt nl 1 2 3, wC s nc, wT s nt 4, wL s nl, wR s nt]) (cl_ : limP al0 s0.loc ρ True) (ck_ : placesK s0.loc ρ ([wB p (setT s t { tk s t with way := 3 }) nc nt nl 1 2 3, wC (setT s t { tk s t with way := 3 }) nc, wT (setT s t { tk s t with way := 3 }) nt 4, wL (setT s t { tk s t with way := 3 }) nl, wR (setT s t { tk s t with way := 3 }) nt].map (AObj.up ρ s0.loc.length)) fun loc' => s0.afterK loc' d0 ((.t [] : TV).up ρ s0.loc.length) K0) : CallAt prog al0 s0 107 as0 d0 K0 :=
  callB ρ cok_ cn_ ca_ co_ cl_ (by rintro r os ⟨rfl, rfl⟩; exact ck_ )
theorem call_fails {al0 : Lim} {s0 : St} {as0 : List Operand} {d0 : Option Tmp} {K0 : St → Prop} {p : DProg} {s : DSys} {nc nt nl t : Nat} (ρ : List Sel) (hn : s.tasks.length = nt) (ht : t < nt) (cn_ : nodupB (keysOf ρ) = true) (ca_ : tvsLe ρ s0.loc.length (as0.map (ev s0)) [ptr 0, int t]) (co_ : locLe ρ s0.loc.length s0.loc s0.fz ρ [wB p s nc nt nl 1 2 3, wC s nc, wT s nt 4, wL s nl, wR s nt]) (cl_ : limP al0 s0.loc ρ True) (ck_ : placesK s0.loc ρ ([wB p (setT s t { tk s t with way := 3 }) nc nt nl 1 2 3, wC (setT s t { tk s t with way := 3 }) nc, wT (setT s t { tk s t with way := 3 }) nt 4, wL (setT s t { tk s t with way := 3 }) nl, wR (setT s t { tk s t with way := 3 }) nt].map (AObj.up ρ s0.loc.length)) fun loc' => s0.afterK loc' d0 ((.t [] : TV).up ρ s0.loc.length) K0) : CallAt prog al0 s0 107 as0 d0 K0 :=
  callx_fails ρ (fails_ok p s nc nt nl t hn ht) cn_ ca_ co_ cl_ ck_

theorem stage_ok (p : DProg) (s : DSys) (nc nt nl t : Nat) (k : Int) (hn : s.tasks.length = nt) (ht : t < nt) : CallOK prog 115 [ptr 0, int t, int k] [wB p s nc nt nl 1 2 3, wC s nc, wT s nt 4, wL s nl, wR s nt] (fun r os => os = [wB p s nc nt nl 1 2 3, wC s nc, wT (setT s t { tk s t with stage := k, at_ := 0 }) nt 4, wL s nl, wR s nt] ∧ r = .t []) := by
  refine fn_ (D := []) [] tab_ok hmo func115 rfl rfl rfl rfl ?_
  repeat' ((conv => whnf); first | (refine And.intro ?_ ?_) | (intro _) | (exact Nat.succ_le_of_lt (by omega)) | (simp only [Int.toNat_natCast, if_true]))
  all_goals (try simp only [Int.toNat_natCast] at *)
  all_goals first | omega | exact ht | skip
  apply ret_ []
  apply retAt_ [.all 0, .all 1, .all 2, .all 3, .all 4] (.t []) [wB p s nc nt nl 1 2 3, wC s nc, wT (setT s t { tk s t with stage := k, at_ := 0 }) nt 4, wL s nl, wR s nt] rfl rfl
  · trivial
  · exact ⟨⟨trivial, rfl, ⟨rfl, rfl, fun _ _ => rfl⟩, ⟨rfl, rfl, fun _ _ => rfl⟩, rfl, rfl, rfl, rfl, trivial⟩, ⟨trivial, rfl, rfl, rfl, fun _ _ => ⟨rfl, rfl, rfl, trivial⟩⟩, ⟨trivial, rfl, rfl, rfl, setLeJ (fun j x => eTaskO x 4 j) hn (fun _ _ hne => by (try simp only [if_neg hne]); exact ⟨rfl, rfl, rfl, rfl, rfl, rfl, rfl, rfl, ⟨rfl, rfl, fun _ _ => rfl⟩, ⟨rfl, rfl, fun _ _ => rfl⟩, ⟨rfl, rfl, fun _ _ => rfl⟩, rfl, rfl, trivial⟩) ⟨rfl, rfl, rfl, rfl, rfl, rfl, rfl, rfl, ⟨rfl, rfl, fun _ _ => rfl⟩, ⟨rfl, rfl, fun _ _ => rfl⟩, ⟨rfl, rfl, fun _ _ => rfl⟩, rfl, rfl, trivial⟩⟩, ⟨trivial, rfl, rfl, rfl, fun _ _ => ⟨rfl, rfl, rfl, ⟨rfl, rfl, fun _ _ => rfl⟩, ⟨rfl, rfl, fun _ _ => rfl⟩, rfl, trivial⟩⟩, ⟨trivial, fun _ hi => ⟨hi, rfl, rfl, rfl, fun _ _ => ⟨rfl, trivial⟩⟩⟩, trivial⟩
  · exact ⟨rfl, rfl⟩
theorem callx_stage {al0 : Lim} {s0 : St} {as0 : List Operand} {d0 : Option Tmp} {K0 : St → Prop} {p : DProg} {s : DSys} {nc nt nl t : Nat} {k : Int} (ρ : List Sel) (cok_ : CallOK prog 115 [ptr 0, int t, int k] [wB p s nc nt nl 1 2 3, wC s nc, wT s nt 4, wL s nl, wR s nt] (fun r os => os = [wB p s nc nt nl 1 2 3, wC s nc, wT (setT s t { tk s t with stage := k, at_ := 0 }) nt 4, wL s nl, wR s nt] ∧ r = .t [])) (cn_ : nodupB (keysOf ρ) = true) (ca_ : tvsLe ρ s0.loc.length (as0.map (ev s0)) [ptr 0, int t, int k]) (co_ : locLe ρ s0.loc.length s0.loc s0.fz ρ [wB p s nc nt nl 1 2 3, wC s nc, wT s nt 4, wL s nl, wR s nt]) (cl_ : limP al0 s0.loc ρ True) (ck_ : placesK s0.loc ρ ([wB p s nc nt nl 1 2 3, wC s nc, wT (setT s t { tk s t with stage := k, at_ := 0 }) nt 4, wL s nl, wR s nt].map (AObj.up ρ s0.loc.length)) fun loc' => s0.afterK loc' d0 ((.t [] : TV).up ρ s0.loc.length) K0) : CallAt prog al0 s0 115 as0 d0 K0 :=
  callB ρ cok_ cn_ ca_ co_ cl_ (by rintro r os ⟨rfl, rfl⟩; exact ck_ )
theorem call_stage {al0 : Lim} {s0 : St} {as0 : List Operand} {d0 : Option Tmp} {K0 : St → Prop} {p : DProg} {s : DSys} {nc nt nl t : Nat} {k : Int} (ρ : List Sel) (hn : s.tasks.length = nt) (ht : t < nt) (cn_ : nodupB (keysOf ρ) = true) (ca_ : tvsLe ρ s0.loc.length (as0.map (ev s0)) [ptr 0, int t, int k]) (co_ : locLe ρ s0.loc.length s0.loc s0.fz ρ [wB p s nc nt nl 1 2 3, wC s nc, wT s nt 4, wL s nl, wR s nt]) (cl_ : limP al0 s0.loc ρ True) (ck_ : placesK s0.loc ρ ([wB p s nc nt nl 1 2 3, wC s nc, wT (setT s t { tk s t with stage := k, at_ := 0 }) nt 4, wL s nl, wR s nt].map (AObj.up ρ s0.loc.length)) fun loc' => s0.afterK loc' d0 ((.t [] : TV).up ρ s0.loc.length) K0) : CallAt prog al0 s0 115 as0 d0 K0 :=
  callx_stage ρ (stage_ok p s nc nt nl t k hn ht) cn_ ca_ co_ cl_ ck_

theorem free_ok (p : DProg) (s : DSys) (nc nt nl : Nat) (t : Int) (hc : s.cells.length = nc) : CallOK prog 127 [ptr 0, int t] [wB p s nc nt nl 1 2 3, wC s nc, wT s nt 4, wL s nl, wR s nt] (fun r os => os = [wB p s nc nt nl 1 2 3, wC (freeS s t) nc, wT s nt 4, wL s nl, wR s nt] ∧ r = .t []) := by
  refine fn_ (D := []) [] tab_ok hmo func127 rfl rfl rfl rfl ?_
  repeat' ((conv => whnf); first | (refine And.intro ?_ ?_) | (intro _))
  apply loop_ (fun ((i, cs) : (Nat) × (List DCell)) => i ≤ nc ∧ cs.length = nc ∧ ∀ j, j < nc → cs.getD j default = if j < i then letGo t (s.cells.getD j default) else s.cells.getD j default) (fun ((i, cs) : (Nat) × (List DCell)) => (⟨34, [(0, ptr 0), (1, int t), (4, int i)], [wB p s nc nt nl 1 2 3, .row 33 3 nc (fun j => eCell (cs.getD j default)), wT s nt 4, wL s nl, wR s nt], []⟩ : St)) (fun ((i, cs) : (Nat) × (List DCell)) => nc - i)
  · (apply to_ []; apply toAt_ [.all 0, .all 1, .all 2, .all 3, .all 4] (0, s.cells); rotate_left 1; exact ⟨rfl, rfl, rfl, rfl, ⟨rfl, rfl, rfl, trivial⟩, ⟨trivial, rfl, ⟨rfl, rfl, fun _ _ => rfl⟩, ⟨rfl, rfl, fun _ _ => rfl⟩, rfl, rfl, rfl, rfl, trivial⟩, ⟨trivial, rfl, rfl, rfl, fun _ _ => ⟨rfl, rfl, rfl, trivial⟩⟩, ⟨trivial, rfl, rfl, rfl, fun _ _ => ⟨rfl, rfl, rfl, rfl, rfl, rfl, rfl, rfl, ⟨rfl, rfl, fun _ _ => rfl⟩, ⟨rfl, rfl, fun _ _ => rfl⟩, ⟨rfl, rfl, fun _ _ => rfl⟩, rfl, rfl, trivial⟩⟩, ⟨trivial, rfl, rfl, rfl, fun _ _ => ⟨rfl, rfl, rfl, ⟨rfl, rfl, fun _ _ => rfl⟩, ⟨rfl, rfl, fun _ _ => rfl⟩, rfl, trivial⟩⟩, ⟨trivial, fun _ hi => ⟨hi, rfl, rfl, rfl, fun _ _ => ⟨rfl, trivial⟩⟩⟩, trivial⟩)
    exact ⟨Nat.zero_le _, hc, fun j hj => by rw [if_neg (by omega)]⟩
  · rintro ⟨i, cs⟩ ⟨h1, h2, h3⟩
    repeat' ((conv => whnf); first | (refine And.intro ?_ ?_) | (intro _) | (exact Nat.succ_le_of_lt (by omega)) | (simp only [Int.toNat_natCast, if_true]))
    all_goals (try simp only [Int.toNat_natCast] at *)
    all_goals first | omega | skip
    · have hi : i < nc := by omega
      have e := h3 i hi
      rw [if_neg (by omega)] at e
      (apply to_ []; apply toAt_ [.all 0, .all 1, .all 2, .all 3, .all 4] (i + 1, cs.set i { cs.getD i default with lock := -1 }); rotate_left 1; exact ⟨rfl, rfl, rfl, rfl, ⟨rfl, rfl, rfl, trivial⟩, ⟨trivial, rfl, ⟨rfl, rfl, fun _ _ => rfl⟩, ⟨rfl, rfl, fun _ _ => rfl⟩, rfl, rfl, rfl, rfl, trivial⟩, ⟨trivial, rfl, rfl, rfl, setLeJ (fun _ x => eCell x) h2 (fun _ _ hne => ⟨rfl, rfl, rfl, trivial⟩) ⟨rfl, rfl, rfl, trivial⟩⟩, ⟨trivial, rfl, rfl, rfl, fun _ _ => ⟨rfl, rfl, rfl, rfl, rfl, rfl, rfl, rfl, ⟨rfl, rfl, fun _ _ => rfl⟩, ⟨rfl, rfl, fun _ _ => rfl⟩, ⟨rfl, rfl, fun _ _ => rfl⟩, rfl, rfl, trivial⟩⟩, ⟨trivial, rfl, rfl, rfl, fun _ _ => ⟨rfl, rfl, rfl, ⟨rfl, rfl, fun _ _ => rfl⟩, ⟨rfl, rfl, fun _ _ => rfl⟩, rfl, trivial⟩⟩, ⟨trivial, fun _ hi => ⟨hi, rfl, rfl, rfl, fun _ _ => ⟨rfl, trivial⟩⟩⟩, trivial⟩)
      refine ⟨⟨by omega, by simp [h2], fun j hj => ?_⟩, by (try simp only); omega⟩
      rw [getD_set _ _ _ _ _ (by omega)]
      by_cases h : j = i
      · subst h
        rw [if_pos rfl, if_pos (by (try simp only); omega), e]
        unfold letGo
        rw [if_pos (by rw [← e]; assumption)]
      · rw [if_neg h, h3 j hj]
        by_cases h' : j < i
        · rw [if_pos h', if_pos (by (try simp only); omega)]
        · rw [if_neg h', if_neg (by (try simp only); omega)]
    · have hi : i < nc := by omega
      have e := h3 i hi
      rw [if_neg (by omega)] at e
      (apply to_ []; apply toAt_ [.all 0, .all 1, .all 2, .all 3, .all 4] (i + 1, cs); rotate_left 1; exact ⟨rfl, rfl, rfl, rfl, ⟨rfl, rfl, rfl, trivial⟩, ⟨trivial, rfl, ⟨rfl, rfl, fun _ _ => rfl⟩, ⟨rfl, rfl, fun _ _ => rfl⟩, rfl, rfl, rfl, rfl, trivial⟩, ⟨trivial, rfl, rfl, rfl, fun _ _ => ⟨rfl, rfl, rfl, trivial⟩⟩, ⟨trivial, rfl, rfl, rfl, fun _ _ => ⟨rfl, rfl, rfl, rfl, rfl, rfl, rfl, rfl, ⟨rfl, rfl, fun _ _ => rfl⟩, ⟨rfl, rfl, fun _ _ => rfl⟩, ⟨rfl, rfl, fun _ _ => rfl⟩, rfl, rfl, trivial⟩⟩, ⟨trivial, rfl, rfl, rfl, fun _ _ => ⟨rfl, rfl, rfl, ⟨rfl, rfl, fun _ _ => rfl⟩, ⟨rfl, rfl, fun _ _ => rfl⟩, rfl, trivial⟩⟩, ⟨trivial, fun _ hi => ⟨hi, rfl, rfl, rfl, fun _ _ => ⟨rfl, trivial⟩⟩⟩, trivial⟩)
      refine ⟨⟨by omega, h2, fun j hj => ?_⟩, by (try simp only); omega⟩
      by_cases h : j = i
      · subst h
        rw [if_pos (by (try simp only); omega), e]
        unfold letGo
        rw [if_neg (by rw [← e]; assumption)]
      · rw [h3 j hj]
        by_cases h' : j < i
        · rw [if_pos h', if_pos (by (try simp only); omega)]
        · rw [if_neg h', if_neg (by (try simp only); omega)]
    · apply ret_ []
      apply retAt_ [.all 0, .all 1, .all 2, .all 3, .all 4] (.t []) [wB p s nc nt nl 1 2 3, wC (freeS s t) nc, wT s nt 4, wL s nl, wR s nt] rfl rfl
      · trivial
      · refine ⟨⟨trivial, rfl, ⟨rfl, rfl, fun _ _ => rfl⟩, ⟨rfl, rfl, fun _ _ => rfl⟩, rfl, rfl, rfl, rfl, trivial⟩, ⟨trivial, rfl, rfl, rfl, fun j hj => ?_⟩, ⟨trivial, rfl, rfl, rfl, fun _ _ => ⟨rfl, rfl, rfl, rfl, rfl, rfl, rfl, rfl, ⟨rfl, rfl, fun _ _ => rfl⟩, ⟨rfl, rfl, fun _ _ => rfl⟩, ⟨rfl, rfl, fun _ _ => rfl⟩, rfl, rfl, trivial⟩⟩, ⟨trivial, rfl, rfl, rfl, fun _ _ => ⟨rfl, rfl, rfl, ⟨rfl, rfl, fun _ _ => rfl⟩, ⟨rfl, rfl, fun _ _ => rfl⟩, rfl, trivial⟩⟩, ⟨trivial, fun _ hi => ⟨hi, rfl, rfl, rfl, fun _ _ => ⟨rfl, trivial⟩⟩⟩, trivial⟩
        have e : (freeS s t).cells.getD j default = cs.getD j default := by
          rw [h3 j hj, if_pos (by omega)]
          exact getD_map _ _ (by omega)
        show cvsLe _ _ _ (eCell ((freeS s t).cells.getD j default))
        rw [e]
        exact ⟨rfl, rfl, rfl, trivial⟩
      · exact ⟨rfl, rfl⟩
theorem callx_free {al0 : Lim} {s0 : St} {as0 : List Operand} {d0 : Option Tmp} {K0 : St → Prop} {p : DProg} {s : DSys} {nc nt nl : Nat} {t : Int} (ρ : List Sel) (cok_ : CallOK prog 127 [ptr 0, int t] [wB p s nc nt nl 1 2 3, wC s nc, wT s nt 4, wL s nl, wR s nt] (fun r os => os = [wB p s nc nt nl 1 2 3, wC (freeS s t) nc, wT s nt 4, wL s nl, wR s nt] ∧ r = .t [])) (cn_ : nodupB (keysOf ρ) = true) (ca_ : tvsLe ρ s0.loc.length (as0.map (ev s0)) [ptr 0, int t]) (co_ : locLe ρ s0.loc.length s0.loc s0.fz ρ [wB p s nc nt nl 1 2 3, wC s nc, wT s nt 4, wL s nl, wR s nt]) (cl_ : limP al0 s0.loc ρ True) (ck_ : placesK s0.loc ρ ([wB p s nc nt nl 1 2 3, wC (freeS s t) nc, wT s nt 4, wL s nl, wR s nt].map (AObj.up ρ s0.loc.length)) fun loc' => s0.afterK loc' d0 ((.t [] : TV).up ρ s0.loc.length) K0) : CallAt prog al0 s0 127 as0 d0 K0 :=
  callB ρ cok_ cn_ ca_ co_ cl_ (by rintro r os ⟨rfl, rfl⟩; exact ck_ )
theorem call_free {al0 : Lim} {s0 : St} {as0 : List Operand} {d0 : Option Tmp} {K0 : St → Prop} {p : DProg} {s : DSys} {nc nt nl : Nat} {t : Int} (ρ : List Sel) (hc : s.cells.length = nc) (cn_ : nodupB (keysOf ρ) = true) (ca_ : tvsLe ρ s0.loc.length (as0.map (ev s0)) [ptr 0, int t]) (co_ : locLe ρ s0.loc.length s0.loc s0.fz ρ [wB p s nc nt nl 1 2 3, wC s nc, wT s nt 4, wL s nl, wR s nt]) (cl_ : limP al0 s0.loc ρ True) (ck_ : placesK s0.loc ρ ([wB p s nc nt nl 1 2 3, wC (freeS s t) nc, wT s nt 4, wL s nl, wR s nt].map (AObj.up ρ s0.loc.length)) fun loc' => s0.afterK loc' d0 ((.t [] : TV).up ρ s0.loc.length) K0) : CallAt prog al0 s0 127 as0 d0 K0 :=
  callx_free ρ (free_ok p s nc nt nl t hc) cn_ ca_ co_ cl_ ck_
end Go.Proofs.AYT
namespace Go.Proofs.AYT
open Go Go.Proofs.AY Go.Proofs.Try
def plans120 : Plans := [(1, ⟨.take 0 false (.take 1 false (.take 2 false (.take 3 false (.take 5 false (.take 7 false (.take 8 false (.take 9 false (.take 10 false (.take 12 false (.take 11 true (.take 13 false (.take 14 false (.take 15 true (.alt 4 (.alt 6 (.alt 16 (.take 17 false (.take 18 false (.alt 19 .done .done))) .done) .done) (.alt 6 (.alt 4 (.alt 16 (.take 17 false (.take 18 false (.alt 19 .done .done))) .done) (.alt 16 (.take 4 true (.take 17 false (.take 18 false (.alt 19 .done .done)))) .done)) .done))))))))))))))), [16, 19], []⟩)]
theorem plans120_ok : plansOk plans120 (bodyOf f120) = true := by kernel_rfl
theorem again_ok (p : DProg) (s : DSys) (nc nt nl t : Nat) (hc : s.cells.length = nc) (hn : s.tasks.length = nt) (ht : t < nt) (ho : (tk s t).old.length = 3) : CallOK prog 120 [ptr 0, int t] [wB p s nc nt nl 1 2 3, wC s nc, wT s nt 4, wL s nl, wR s nt] (fun r os => os = [wB p (againS s t) nc nt nl 5 6 7, .dead, .dead, .dead, .dead, wC (againS s t) nc, wT (againS s t) nt 8, wL (againS s t) nl, wR (againS s t) nt] ∧ r = .t []) := by
  refine fn_ [2, 3, 4, 5] tab_ok hmo func120 rfl rfl plans120_ok rfl ?_
  have ho' : (s.tasks.getD t default).old.length = 3 := ho
  repeat' ((conv => whnf); first | (refine And.intro ?_ ?_) | (intro _) | (apply call0_ (g := 127); refine call_free [.all 0, .all 1, .all 2, .all 3, .all 4] hc rfl ⟨rfl, rfl, trivial⟩ ⟨⟨trivial, rfl, ⟨rfl, rfl, fun _ _ => rfl⟩, ⟨rfl, rfl, fun _ _ => rfl⟩, rfl, rfl, rfl, rfl, trivial⟩, ⟨trivial, rfl, rfl, rfl, fun _ _ => ⟨rfl, rfl, rfl, trivial⟩⟩, ⟨trivial, rfl, rfl, rfl, fun _ _ => ⟨rfl, rfl, rfl, rfl, rfl, rfl, rfl, rfl, ⟨rfl, rfl, fun _ _ => rfl⟩, ⟨rfl, rfl, fun _ _ => rfl⟩, ⟨rfl, rfl, fun _ _ => rfl⟩, rfl, rfl, trivial⟩⟩, ⟨trivial, rfl, rfl, rfl, fun _ _ => ⟨rfl, rfl, rfl, ⟨rfl, rfl, fun _ _ => rfl⟩, ⟨rfl, rfl, fun _ _ => rfl⟩, rfl, trivial⟩⟩, ⟨trivial, fun _ hi => ⟨hi, rfl, rfl, rfl, fun _ _ => ⟨rfl, trivial⟩⟩⟩, trivial⟩ (by first | exact trivial | exact ⟨⟨rfl, Nat.le_refl _, trivial⟩, trivial⟩ | exact ⟨⟨rfl, trivial, ⟨rfl, trivial, ⟨rfl, trivial, ⟨rfl, trivial, ⟨rfl, trivial, trivial⟩⟩⟩⟩⟩, trivial⟩) ?_))
  obtain ⟨S1, hS1⟩ : ∃ S1, S1 = setT (freeS s t) t { tk s t with regs := (tk s t).old } := ⟨_, rfl⟩
  apply cut_ (fun u : Unit => True) (fun u : Unit => (⟨55, [(0, ptr 0), (1, int t)], [wB p S1 nc nt nl 1 2 3, wC S1 nc, wT S1 nt 5, wL S1 nl, .dead, wR S1 nt], []⟩ : St))
  · subst hS1
    repeat' ((conv => whnf); first | (refine And.intro ?_ ?_) | (intro _))
    all_goals (try simp only [Int.toNat_natCast] at *)
    all_goals first | omega | (simp only [ti3]; omega) | skip
    all_goals
      (apply to_ []; apply toAt_ [.all 0, .all 1, .all 2, .all 3, .gone 4, .subst 4 t 6] (); rotate_left 1; exact ⟨rfl, rfl, rfl, rfl, ⟨rfl, rfl, trivial⟩, ⟨trivial, rfl, ⟨rfl, rfl, fun _ _ => rfl⟩, ⟨rfl, rfl, fun _ _ => rfl⟩, rfl, rfl, rfl, rfl, trivial⟩, ⟨trivial, rfl, rfl, rfl, fun _ _ => ⟨rfl, rfl, rfl, trivial⟩⟩, ⟨trivial, rfl, rfl, rfl, setLeJ (fun j x => eTaskO x 5 j) hn (fun j hj hne => ⟨rfl, rfl, rfl, sub_ne rfl hne, rfl, rfl, rfl, rfl, ⟨rfl, rfl, fun _ _ => rfl⟩, ⟨rfl, rfl, fun _ _ => rfl⟩, ⟨rfl, rfl, fun _ _ => rfl⟩, rfl, rfl, trivial⟩) ⟨rfl, rfl, rfl, sub_at rfl (by rw [Nat.zero_add]; exact ho), rfl, rfl, rfl, rfl, ⟨rfl, rfl, fun _ _ => rfl⟩, ⟨rfl, rfl, fun _ _ => rfl⟩, ⟨rfl, rfl, fun _ _ => rfl⟩, rfl, rfl, trivial⟩⟩, ⟨trivial, rfl, rfl, rfl, fun _ _ => ⟨rfl, rfl, rfl, ⟨rfl, rfl, fun _ _ => rfl⟩, ⟨rfl, rfl, fun _ _ => rfl⟩, rfl, trivial⟩⟩, trivial, subLe rfl rfl (by rw [Nat.zero_add]; exact ho) (fun i hi hne j hj => by (show cvsLe _ _ _ (eI (((s.tasks.set t { tk s t with regs := (tk s t).old }).getD i default).regs.getD j default)); rw [getD_set _ _ _ _ _ (by omega), if_neg hne]; exact ⟨rfl, trivial⟩)) (fun j hj => by (show cvsLe _ _ _ (eI (((s.tasks.set t { tk s t with regs := (tk s t).old }).getD t default).regs.getD j default)); rw [set_self (by omega)]; exact ⟨rfl, trivial⟩)), trivial⟩)
      trivial
  · intro _ _
    have hn1 : S1.tasks.length = nt := by rw [hS1, setT_len]; exact hn
    obtain ⟨S2, hS2⟩ : ∃ S2, S2 = setT S1 t { tk S1 t with reads := [] } := ⟨_, rfl⟩
    have hn2 : S2.tasks.length = nt := by rw [hS2, setT_len]; exact hn1
    have hR2 : wR S2 nt = wR S1 nt := by rw [hS2]; exact wR_set rfl
    apply cut_ (fun u : Unit => True) (fun u : Unit => (⟨55, [(0, ptr 0), (1, int t)], [wB p S2 nc nt nl 1 2 3, wC S2 nc, wT S2 nt 5, wL S2 nl, .dead, wR S2 nt], []⟩ : St))
    · rw [hR2]
      subst hS2
      repeat' ((conv => whnf); first | (refine And.intro ?_ ?_) | (intro _))
      all_goals (try simp only [Int.toNat_natCast] at *)
      all_goals first | omega | rfl | skip
      apply to_ [6]
      refine And.intro ?_ ?_
      · exact fun j hj => absurd hj (Nat.not_lt_zero _)
      (apply toAt_ [.all 0, .all 1, .all 2, .all 3, .gone 4, .all 5] (); rotate_left 1; exact ⟨rfl, rfl, rfl, rfl, ⟨rfl, rfl, trivial⟩, ⟨trivial, rfl, ⟨rfl, rfl, fun _ _ => rfl⟩, ⟨rfl, rfl, fun _ _ => rfl⟩, rfl, rfl, rfl, rfl, trivial⟩, ⟨trivial, rfl, rfl, rfl, fun _ _ => ⟨rfl, rfl, rfl, trivial⟩⟩, ⟨trivial, rfl, rfl, rfl, setLeJ (fun j x => eTaskO x 5 j) hn1 (fun _ _ _ => ⟨rfl, rfl, rfl, rfl, rfl, rfl, rfl, rfl, ⟨rfl, rfl, fun _ _ => rfl⟩, ⟨rfl, rfl, fun _ _ => rfl⟩, ⟨rfl, rfl, fun _ _ => rfl⟩, rfl, rfl, trivial⟩) ⟨rfl, rfl, rfl, rfl, rfl, rfl, rfl, rfl, ⟨rfl, rfl, fun _ _ => rfl⟩, ⟨rfl, rfl, fun j hj => absurd hj (Nat.not_lt_zero _)⟩, ⟨rfl, rfl, fun _ _ => rfl⟩, rfl, rfl, trivial⟩⟩, ⟨trivial, rfl, rfl, rfl, fun _ _ => ⟨rfl, rfl, rfl, ⟨rfl, rfl, fun _ _ => rfl⟩, ⟨rfl, rfl, fun _ _ => rfl⟩, rfl, trivial⟩⟩, trivial, ⟨trivial, fun _ hi => ⟨hi, rfl, rfl, rfl, fun _ _ => ⟨rfl, trivial⟩⟩⟩, trivial⟩)
      trivial
    intro _ _
    obtain ⟨S3, hS3⟩ : ∃ S3, S3 = setT S2 t { tk S2 t with puts := [] } := ⟨_, rfl⟩
    have hn3 : S3.tasks.length = nt := by rw [hS3, setT_len]; exact hn2
    have hR3 : wR S3 nt = wR S2 nt := by rw [hS3]; exact wR_set rfl
    apply cut_ (fun u : Unit => True) (fun u : Unit => (⟨55, [(0, ptr 0), (1, int t)], [wB p S3 nc nt nl 1 2 3, wC S3 nc, wT S3 nt 5, wL S3 nl, .dead, wR S3 nt], []⟩ : St))
    · rw [hR3]
      subst hS3
      repeat' ((conv => whnf); first | (refine And.intro ?_ ?_) | (intro _))
      all_goals (try simp only [Int.toNat_natCast] at *)
      all_goals first | omega | rfl | skip
      apply to_ [6]
      refine And.intro ?_ ?_
      · exact fun j hj => absurd hj (Nat.not_lt_zero _)
      (apply toAt_ [.all 0, .all 1, .all 2, .all 3, .gone 4, .all 5] (); rotate_left 1; exact ⟨rfl, rfl, rfl, rfl, ⟨rfl, rfl, trivial⟩, ⟨trivial, rfl, ⟨rfl, rfl, fun _ _ => rfl⟩, ⟨rfl, rfl, fun _ _ => rfl⟩, rfl, rfl, rfl, rfl, trivial⟩, ⟨trivial, rfl, rfl, rfl, fun _ _ => ⟨rfl, rfl, rfl, trivial⟩⟩, ⟨trivial, rfl, rfl, rfl, setLeJ (fun j x => eTaskO x 5 j) hn2 (fun _ _ _ => ⟨rfl, rfl, rfl, rfl, rfl, rfl, rfl, rfl, ⟨rfl, rfl, fun _ _ => rfl⟩, ⟨rfl, rfl, fun _ _ => rfl⟩, ⟨rfl, rfl, fun _ _ => rfl⟩, rfl, rfl, trivial⟩) ⟨rfl, rfl, rfl, rfl, rfl, rfl, rfl, rfl, ⟨rfl, rfl, fun _ _ => rfl⟩, ⟨rfl, rfl, fun _ _ => rfl⟩, ⟨rfl, rfl, fun j hj => absurd hj (Nat.not_lt_zero _)⟩, rfl, rfl, trivial⟩⟩, ⟨trivial, rfl, rfl, rfl, fun _ _ => ⟨rfl, rfl, rfl, ⟨rfl, rfl, fun _ _ => rfl⟩, ⟨rfl, rfl, fun _ _ => rfl⟩, rfl, trivial⟩⟩, trivial, ⟨trivial, fun _ hi => ⟨hi, rfl, rfl, rfl, fun _ _ => ⟨rfl, trivial⟩⟩⟩, trivial⟩)
      trivial
    intro _ _
    obtain ⟨S4, hS4⟩ : ∃ S4, S4 = setT S3 t { tk S3 t with when := 0 } := ⟨_, rfl⟩
    have hn4 : S4.tasks.length = nt := by rw [hS4, setT_len]; exact hn3
    have hR4 : wR S4 nt = wR S3 nt := by rw [hS4]; exact wR_set rfl
    apply cut_ (fun u : Unit => True) (fun u : Unit => (⟨55, [(0, ptr 0), (1, int t)], [wB p S4 nc nt nl 1 2 3, wC S4 nc, wT S4 nt 5, wL S4 nl, .dead, wR S4 nt], []⟩ : St))
    · rw [hR4]
      subst hS4
      repeat' ((conv => whnf); first | (refine And.intro ?_ ?_) | (intro _))
      all_goals (try simp only [Int.toNat_natCast] at *)
      all_goals first | omega | rfl | skip
      (apply to_ []; apply toAt_ [.all 0, .all 1, .all 2, .all 3, .gone 4, .all 5] (); rotate_left 1; exact ⟨rfl, rfl, rfl, rfl, ⟨rfl, rfl, trivial⟩, ⟨trivial, rfl, ⟨rfl, rfl, fun _ _ => rfl⟩, ⟨rfl, rfl, fun _ _ => rfl⟩, rfl, rfl, rfl, rfl, trivial⟩, ⟨trivial, rfl, rfl, rfl, fun _ _ => ⟨rfl, rfl, rfl, trivial⟩⟩, ⟨trivial, rfl, rfl, rfl, setLeJ (fun j x => eTaskO x 5 j) hn3 (fun _ _ _ => ⟨rfl, rfl, rfl, rfl, rfl, rfl, rfl, rfl, ⟨rfl, rfl, fun _ _ => rfl⟩, ⟨rfl, rfl, fun _ _ => rfl⟩, ⟨rfl, rfl, fun _ _ => rfl⟩, rfl, rfl, trivial⟩) ⟨rfl, rfl, rfl, rfl, rfl, rfl, rfl, rfl, ⟨rfl, rfl, fun _ _ => rfl⟩, ⟨rfl, rfl, fun _ _ => rfl⟩, ⟨rfl, rfl, fun _ _ => rfl⟩, rfl, rfl, trivial⟩⟩, ⟨trivial, rfl, rfl, rfl, fun _ _ => ⟨rfl, rfl, rfl, ⟨rfl, rfl, fun _ _ => rfl⟩, ⟨rfl, rfl, fun _ _ => rfl⟩, rfl, trivial⟩⟩, trivial, ⟨trivial, fun _ hi => ⟨hi, rfl, rfl, rfl, fun _ _ => ⟨rfl, trivial⟩⟩⟩, trivial⟩)
      trivial
    intro _ _
    have hfin : setT S4 t { tk S4 t with stage := 0, at_ := 0 } = againS s t := by
      have ht' : t < (freeS s t).tasks.length := by show t < s.tasks.length; omega
      rw [hS4, tk_setT (by omega), setT_setT, hS3, tk_setT (by omega), setT_setT, hS2, tk_setT (by omega), setT_setT, hS1, tk_setT ht', setT_setT]; rfl
    have hR5 : wR (setT S4 t { tk S4 t with stage := 0, at_ := 0 }) nt = wR S4 nt := wR_set rfl
    rw [← hfin]
    repeat' ((conv => whnf); first | (refine And.intro ?_ ?_) | (intro _) | (apply call0_ (g := 115); refine call_stage [.all 0, .all 1, .all 2, .all 3, .all 5] (s := S4) hn4 ht rfl ⟨rfl, rfl, rfl, trivial⟩ ⟨⟨trivial, rfl, ⟨rfl, rfl, fun _ _ => rfl⟩, ⟨rfl, rfl, fun _ _ => rfl⟩, rfl, rfl, rfl, rfl, trivial⟩, ⟨trivial, rfl, rfl, rfl, fun _ _ => ⟨rfl, rfl, rfl, trivial⟩⟩, ⟨trivial, rfl, rfl, rfl, fun _ _ => ⟨rfl, rfl, rfl, rfl, rfl, rfl, rfl, rfl, ⟨rfl, rfl, fun _ _ => rfl⟩, ⟨rfl, rfl, fun _ _ => rfl⟩, ⟨rfl, rfl, fun _ _ => rfl⟩, rfl, rfl, trivial⟩⟩, ⟨trivial, rfl, rfl, rfl, fun _ _ => ⟨rfl, rfl, rfl, ⟨rfl, rfl, fun _ _ => rfl⟩, ⟨rfl, rfl, fun _ _ => rfl⟩, rfl, trivial⟩⟩, ⟨trivial, fun _ hi => ⟨hi, rfl, rfl, rfl, fun _ _ => ⟨rfl, trivial⟩⟩⟩, trivial⟩ (by first | exact trivial | exact ⟨⟨rfl, Nat.le_refl _, trivial⟩, trivial⟩ | exact ⟨⟨rfl, trivial, ⟨rfl, trivial, ⟨rfl, trivial, ⟨rfl, trivial, ⟨rfl, trivial, trivial⟩⟩⟩⟩⟩, trivial⟩) ?_))
    apply ret_ []
    apply retAt_ [.all 0, .gone 1, .gone 2, .gone 3, .gone 4, .all 1, .all 2, .all 3, .all 5] (.t []) [wB p S4 nc nt nl 5 6 7, .dead, .dead, .dead, .dead, wC S4 nc, wT (setT S4 t { tk S4 t with stage := 0, at_ := 0 }) nt 8, wL S4 nl, wR S4 nt] rfl rfl
    · trivial
    · exact ⟨⟨trivial, rfl, ⟨rfl, rfl, fun _ _ => rfl⟩, ⟨rfl, rfl, fun _ _ => rfl⟩, rfl, rfl, rfl, rfl, trivial⟩, trivial, trivial, trivial, trivial, ⟨trivial, rfl, rfl, rfl, fun _ _ => ⟨rfl, rfl, rfl, trivial⟩⟩, ⟨trivial, rfl, rfl, rfl, fun _ _ => ⟨rfl, rfl, rfl, rfl, rfl, rfl, rfl, rfl, ⟨rfl, rfl, fun _ _ => rfl⟩, ⟨rfl, rfl, fun _ _ => rfl⟩, ⟨rfl, rfl, fun _ _ => rfl⟩, rfl, rfl, trivial⟩⟩, ⟨trivial, rfl, rfl, rfl, fun _ _ => ⟨rfl, rfl, rfl, ⟨rfl, rfl, fun _ _ => rfl⟩, ⟨rfl, rfl, fun _ _ => rfl⟩, rfl, trivial⟩⟩, ⟨trivial, fun _ hi => ⟨hi, rfl, rfl, rfl, fun _ _ => ⟨rfl, trivial⟩⟩⟩, trivial⟩
    · exact ⟨by rw [hR5]; rfl, rfl⟩
theorem callx_again {al0 : Lim} {s0 : St} {as0 : List Operand} {d0 : Option Tmp} {K0 : St → Prop} {p : DProg} {s : DSys} {nc nt nl t : Nat} (ρ : List Sel) (cok_ : CallOK prog 120 [ptr 0, int t] [wB p s nc nt nl 1 2 3, wC s nc, wT s nt 4, wL s nl, wR s nt] (fun r os => os = [wB p (againS s t) nc nt nl 5 6 7, .dead, .dead, .dead, .dead, wC (againS s t) nc, wT (againS s t) nt 8, wL (againS s t) nl, wR (againS s t) nt] ∧ r = .t [])) (cn_ : nodupB (keysOf ρ) = true) (ca_ : tvsLe ρ s0.loc.length (as0.map (ev s0)) [ptr 0, int t]) (co_ : locLe ρ s0.loc.length s0.loc s0.fz ρ [wB p s nc nt nl 1 2 3, wC s nc, wT s nt 4, wL s nl, wR s nt]) (cl_ : limP al0 s0.loc ρ True) (ck_ : placesK s0.loc ρ ([wB p (againS s t) nc nt nl 5 6 7, .dead, .dead, .dead, .dead, wC (againS s t) nc, wT (againS s t) nt 8, wL (againS s t) nl, wR (againS s t) nt].map (AObj.up ρ s0.loc.length)) fun loc' => s0.afterK loc' d0 ((.t [] : TV).up ρ s0.loc.length) K0) : CallAt prog al0 s0 120 as0 d0 K0 :=
  callB ρ cok_ cn_ ca_ co_ cl_ (by rintro r os ⟨rfl, rfl⟩; exact ck_ )
theorem call_again {al0 : Lim} {s0 : St} {as0 : List Operand} {d0 : Option Tmp} {K0 : St → Prop} {p : DProg} {s : DSys} {nc nt nl t : Nat} (ρ : List Sel) (hc : s.cells.length = nc) (hn : s.tasks.length = nt) (ht : t < nt) (ho : (tk s t).old.length = 3) (cn_ : nodupB (keysOf ρ) = true) (ca_ : tvsLe ρ s0.loc.length (as0.map (ev s0)) [ptr 0, int t]) (co_ : locLe ρ s0.loc.length s0.loc s0.fz ρ [wB p s nc nt nl 1 2 3, wC s nc, wT s nt 4, wL s nl, wR s nt]) (cl_ : limP al0 s0.loc ρ True) (ck_ : placesK s0.loc ρ ([wB p (againS s t) nc nt nl 5 6 7, .dead, .dead, .dead, .dead, wC (againS s t) nc, wT (againS s t) nt 8, wL (againS s t) nl, wR (againS s t) nt].map (AObj.up ρ s0.loc.length)) fun loc' => s0.afterK loc' d0 ((.t [] : TV).up ρ s0.loc.length) K0) : CallAt prog al0 s0 120 as0 d0 K0 :=
  callx_again ρ (again_ok p s nc nt nl t hc hn ht ho) cn_ ca_ co_ cl_ ck_
end Go.Proofs.AYT
namespace Go.Proofs.AYT
open Go Go.Proofs.AY Go.Proofs.Try
def plans125 : Plans := [(2, ⟨.take 0 false (.take 1 true (.take 2 false (.take 3 false (.take 4 false (.take 6 false (.take 5 true (.take 7 false (.take 8 false (.take 9 false (.take 10 false (.take 12 false (.take 13 false (.take 14 false (.take 15 false (.take 17 false (.take 11 true (.take 16 true (.take 18 false (.take 19 false (.take 20 true (.take 21 false (.take 22 false (.take 23 false .done))))))))))))))))))))))), [], []⟩)]
theorem plans125_ok : plansOk plans125 (bodyOf f125) = true := by kernel_rfl
theorem blind_ok (p : DProg) (s : DSys) (nc nt nl t : Nat) (c : Int) (hc : s.cells.length = nc) (hn : s.tasks.length = nt) (ht : t < nt) (hk : 0 ≤ c ∧ c < nc) : CallOK prog 125 [ptr 0, int t, int c] [wB p s nc nt nl 1 2 3, wC s nc, wT s nt 4, wL s nl, wR s nt] (fun r os => os = [wB p s nc nt nl 1 2 3, wC s nc, wT s nt 4, wL s nl, wR s nt] ∧ r = bl (decide (blindP s t c))) := by
  refine fn_ [] tab_ok hmo func125 rfl rfl plans125_ok rfl ?_
  repeat' ((conv => whnf); first | (refine And.intro ?_ ?_) | (intro _))
  all_goals (try simp only [Int.toNat_natCast] at *)
  all_goals first | omega | skip
  all_goals
    apply ret_ []
    apply retAt_ [.all 0, .all 1, .all 2, .all 3, .all 4] (bl _) [wB p s nc nt nl 1 2 3, wC s nc, wT s nt 4, wL s nl, wR s nt] rfl rfl
    · exact rfl
    · exact ⟨⟨trivial, rfl, ⟨rfl, rfl, fun _ _ => rfl⟩, ⟨rfl, rfl, fun _ _ => rfl⟩, rfl, rfl, rfl, rfl, trivial⟩, ⟨trivial, rfl, rfl, rfl, fun _ _ => ⟨rfl, rfl, rfl, trivial⟩⟩, ⟨trivial, rfl, rfl, rfl, fun _ _ => ⟨rfl, rfl, rfl, rfl, rfl, rfl, rfl, rfl, ⟨rfl, rfl, fun _ _ => rfl⟩, ⟨rfl, rfl, fun _ _ => rfl⟩, ⟨rfl, rfl, fun _ _ => rfl⟩, rfl, rfl, trivial⟩⟩, ⟨trivial, rfl, rfl, rfl, fun _ _ => ⟨rfl, rfl, rfl, ⟨rfl, rfl, fun _ _ => rfl⟩, ⟨rfl, rfl, fun _ _ => rfl⟩, rfl, trivial⟩⟩, ⟨trivial, fun _ hi => ⟨hi, rfl, rfl, rfl, fun _ _ => ⟨rfl, trivial⟩⟩⟩, trivial⟩
    · refine ⟨rfl, congrArg bl ?_⟩
      first
      | exact (decide_eq_true (by simp only [blindP, tk]; omega)).symm
      | exact (decide_eq_false (by simp only [blindP, tk]; omega)).symm
theorem callx_blind {al0 : Lim} {s0 : St} {as0 : List Operand} {d0 : Option Tmp} {K0 : St → Prop} {p : DProg} {s : DSys} {nc nt nl t : Nat} {c : Int} (ρ : List Sel) (cok_ : CallOK prog 125 [ptr 0, int t, int c] [wB p s nc nt nl 1 2 3, wC s nc, wT s nt 4, wL s nl, wR s nt] (fun r os => os = [wB p s nc nt nl 1 2 3, wC s nc, wT s nt 4, wL s nl, wR s nt] ∧ r = bl (decide (blindP s t c)))) (cn_ : nodupB (keysOf ρ) = true) (ca_ : tvsLe ρ s0.loc.length (as0.map (ev s0)) [ptr 0, int t, int c]) (co_ : locLe ρ s0.loc.length s0.loc s0.fz ρ [wB p s nc nt nl 1 2 3, wC s nc, wT s nt 4, wL s nl, wR s nt]) (cl_ : limP al0 s0.loc ρ True) (cT_ : (blindP s t c) → placesK s0.loc ρ ([wB p s nc nt nl 1 2 3, wC s nc, wT s nt 4, wL s nl, wR s nt].map (AObj.up ρ s0.loc.length)) fun loc' => s0.afterK loc' d0 ((bl true : TV).up ρ s0.loc.length) K0) (cF_ : ¬ (blindP s t c) → placesK s0.loc ρ ([wB p s nc nt nl 1 2 3, wC s nc, wT s nt 4, wL s nl, wR s nt].map (AObj.up ρ s0.loc.length)) fun loc' => s0.afterK loc' d0 ((bl false : TV).up ρ s0.loc.length) K0) : CallAt prog al0 s0 125 as0 d0 K0 :=
  callB ρ cok_ cn_ ca_ co_ cl_ (by rintro r os ⟨rfl, rfl⟩; by_cases hb : (blindP s t c); rw [decide_eq_true hb]; exact cT_  hb ; rw [decide_eq_false hb]; exact cF_  hb )
theorem call_blind {al0 : Lim} {s0 : St} {as0 : List Operand} {d0 : Option Tmp} {K0 : St → Prop} {p : DProg} {s : DSys} {nc nt nl t : Nat} {c : Int} (ρ : List Sel) (hc : s.cells.length = nc) (hn : s.tasks.length = nt) (ht : t < nt) (hk : 0 ≤ c ∧ c < nc) (cn_ : nodupB (keysOf ρ) = true) (ca_ : tvsLe ρ s0.loc.length (as0.map (ev s0)) [ptr 0, int t, int c]) (co_ : locLe ρ s0.loc.length s0.loc s0.fz ρ [wB p s nc nt nl 1 2 3, wC s nc, wT s nt 4, wL s nl, wR s nt]) (cl_ : limP al0 s0.loc ρ True) (cT_ : (blindP s t c) → placesK s0.loc ρ ([wB p s nc nt nl 1 2 3, wC s nc, wT s nt 4, wL s nl, wR s nt].map (AObj.up ρ s0.loc.length)) fun loc' => s0.afterK loc' d0 ((bl true : TV).up ρ s0.loc.length) K0) (cF_ : ¬ (blindP s t c) → placesK s0.loc ρ ([wB p s nc nt nl 1 2 3, wC s nc, wT s nt 4, wL s nl, wR s nt].map (AObj.up ρ s0.loc.length)) fun loc' => s0.afterK loc' d0 ((bl false : TV).up ρ s0.loc.length) K0) : CallAt prog al0 s0 125 as0 d0 K0 :=
  callx_blind ρ (blind_ok p s nc nt nl t c hc hn ht hk) cn_ ca_ co_ cl_ cT_ cF_

theorem kidsO_ok (p : DProg) (s : DSys) (nc nt nl : Nat) (task way : Int) (hn : s.tasks.length = nt) : CallOK prog 98 [ptr 0, int task, int way] [wB p s nc nt nl 1 2 3, wC s nc, wT s nt 4, wL s nl, wR s nt] (fun r os => os = [wB p s nc nt nl 1 2 3, wC s nc, wT s nt 4, wL s nl, wR s nt] ∧ r = int (kidsN s.tasks task way)) := by
  refine fn_ (D := []) [] tab_ok hmo func98 rfl rfl rfl rfl ?_
  repeat' ((conv => whnf); first | (refine And.intro ?_ ?_) | (intro _))
  apply loop_ (fun ((i, n) : (Nat) × (Int)) => i ≤ nt ∧ n = kidsN (s.tasks.take i) task way) (fun ((i, n) : (Nat) × (Int)) => (⟨46, [(0, ptr 0), (1, int task), (2, int way), (7, int n), (8, int i)], [wB p s nc nt nl 1 2 3, wC s nc, wT s nt 4, wL s nl, wR s nt], []⟩ : St)) (fun ((i, n) : (Nat) × (Int)) => nt - i)
  · (apply to_ []; apply toAt_ [.all 0, .all 1, .all 2, .all 3, .all 4] (0, 0); rotate_left 1; exact ⟨rfl, rfl, rfl, rfl, ⟨rfl, rfl, rfl, rfl, rfl, trivial⟩, ⟨trivial, rfl, ⟨rfl, rfl, fun _ _ => rfl⟩, ⟨rfl, rfl, fun _ _ => rfl⟩, rfl, rfl, rfl, rfl, trivial⟩, ⟨trivial, rfl, rfl, rfl, fun _ _ => ⟨rfl, rfl, rfl, trivial⟩⟩, ⟨trivial, rfl, rfl, rfl, fun _ _ => ⟨rfl, rfl, rfl, rfl, rfl, rfl, rfl, rfl, ⟨rfl, rfl, fun _ _ => rfl⟩, ⟨rfl, rfl, fun _ _ => rfl⟩, ⟨rfl, rfl, fun _ _ => rfl⟩, rfl, rfl, trivial⟩⟩, ⟨trivial, rfl, rfl, rfl, fun _ _ => ⟨rfl, rfl, rfl, ⟨rfl, rfl, fun _ _ => rfl⟩, ⟨rfl, rfl, fun _ _ => rfl⟩, rfl, trivial⟩⟩, ⟨trivial, fun _ hi => ⟨hi, rfl, rfl, rfl, fun _ _ => ⟨rfl, trivial⟩⟩⟩, trivial⟩)
    exact ⟨Nat.zero_le _, rfl⟩
  · rintro ⟨i, n⟩ ⟨h1, h2⟩
    have hb := kidsN_bound (s.tasks.take i) task way
    have hl : (s.tasks.take i).length ≤ i := by rw [List.length_take]; omega
    repeat' ((conv => whnf); first | (refine And.intro ?_ ?_) | (intro _))
    all_goals (try simp only [Int.toNat_natCast] at *)
    all_goals first | omega | skip
    all_goals first
    | ((apply to_ []; apply toAt_ [.all 0, .all 1, .all 2, .all 3, .all 4] (i+1, _); rotate_left 1; exact ⟨rfl, rfl, rfl, rfl, ⟨rfl, rfl, rfl, rfl, rfl, trivial⟩, ⟨trivial, rfl, ⟨rfl, rfl, fun _ _ => rfl⟩, ⟨rfl, rfl, fun _ _ => rfl⟩, rfl, rfl, rfl, rfl, trivial⟩, ⟨trivial, rfl, rfl, rfl, fun _ _ => ⟨rfl, rfl, rfl, trivial⟩⟩, ⟨trivial, rfl, rfl, rfl, fun _ _ => ⟨rfl, rfl, rfl, rfl, rfl, rfl, rfl, rfl, ⟨rfl, rfl, fun _ _ => rfl⟩, ⟨rfl, rfl, fun _ _ => rfl⟩, ⟨rfl, rfl, fun _ _ => rfl⟩, rfl, rfl, trivial⟩⟩, ⟨trivial, rfl, rfl, rfl, fun _ _ => ⟨rfl, rfl, rfl, ⟨rfl, rfl, fun _ _ => rfl⟩, ⟨rfl, rfl, fun _ _ => rfl⟩, rfl, trivial⟩⟩, ⟨trivial, fun _ hi => ⟨hi, rfl, rfl, rfl, fun _ _ => ⟨rfl, trivial⟩⟩⟩, trivial⟩); refine ⟨⟨by omega, ?_⟩, by (try simp only); omega⟩; rw [take_snoc _ _ (by omega), kidsN_snoc]; first | (rw [if_pos (by omega)]; omega) | (rw [if_neg (by omega)]; omega))
    | (apply ret_ []; apply retAt_ [.all 0, .all 1, .all 2, .all 3, .all 4] (int _) [wB p s nc nt nl 1 2 3, wC s nc, wT s nt 4, wL s nl, wR s nt] rfl rfl; exact rfl; exact ⟨⟨trivial, rfl, ⟨rfl, rfl, fun _ _ => rfl⟩, ⟨rfl, rfl, fun _ _ => rfl⟩, rfl, rfl, rfl, rfl, trivial⟩, ⟨trivial, rfl, rfl, rfl, fun _ _ => ⟨rfl, rfl, rfl, trivial⟩⟩, ⟨trivial, rfl, rfl, rfl, fun _ _ => ⟨rfl, rfl, rfl, rfl, rfl, rfl, rfl, rfl, ⟨rfl, rfl, fun _ _ => rfl⟩, ⟨rfl, rfl, fun _ _ => rfl⟩, ⟨rfl, rfl, fun _ _ => rfl⟩, rfl, rfl, trivial⟩⟩, ⟨trivial, rfl, rfl, rfl, fun _ _ => ⟨rfl, rfl, rfl, ⟨rfl, rfl, fun _ _ => rfl⟩, ⟨rfl, rfl, fun _ _ => rfl⟩, rfl, trivial⟩⟩, ⟨trivial, fun _ hi => ⟨hi, rfl, rfl, rfl, fun _ _ => ⟨rfl, trivial⟩⟩⟩, trivial⟩; exact ⟨rfl, by rw [h2, List.take_of_length_le (by omega)]⟩)
theorem callx_kidsO {al0 : Lim} {s0 : St} {as0 : List Operand} {d0 : Option Tmp} {K0 : St → Prop} {p : DProg} {s : DSys} {nc nt nl : Nat} {task way : Int} (ρ : List Sel) (cok_ : CallOK prog 98 [ptr 0, int task, int way] [wB p s nc nt nl 1 2 3, wC s nc, wT s nt 4, wL s nl, wR s nt] (fun r os => os = [wB p s nc nt nl 1 2 3, wC s nc, wT s nt 4, wL s nl, wR s nt] ∧ r = int (kidsN s.tasks task way))) (cn_ : nodupB (keysOf ρ) = true) (ca_ : tvsLe ρ s0.loc.length (as0.map (ev s0)) [ptr 0, int task, int way]) (co_ : locLe ρ s0.loc.length s0.loc s0.fz ρ [wB p s nc nt nl 1 2 3, wC s nc, wT s nt 4, wL s nl, wR s nt]) (cl_ : limP al0 s0.loc ρ True) (ck_ : placesK s0.loc ρ ([wB p s nc nt nl 1 2 3, wC s nc, wT s nt 4, wL s nl, wR s nt].map (AObj.up ρ s0.loc.length)) fun loc' => s0.afterK loc' d0 ((int (kidsN s.tasks task way) : TV).up ρ s0.loc.length) K0) : CallAt prog al0 s0 98 as0 d0 K0 :=
  callB ρ cok_ cn_ ca_ co_ cl_ (by rintro r os ⟨rfl, rfl⟩; exact ck_ )
theorem call_kidsO {al0 : Lim} {s0 : St} {as0 : List Operand} {d0 : Option Tmp} {K0 : St → Prop} {p : DProg} {s : DSys} {nc nt nl : Nat} {task way : Int} (ρ : List Sel) (hn : s.tasks.length = nt) (cn_ : nodupB (keysOf ρ) = true) (ca_ : tvsLe ρ s0.loc.length (as0.map (ev s0)) [ptr 0, int task, int way]) (co_ : locLe ρ s0.loc.length s0.loc s0.fz ρ [wB p s nc nt nl 1 2 3, wC s nc, wT s nt 4, wL s nl, wR s nt]) (cl_ : limP al0 s0.loc ρ True) (ck_ : placesK s0.loc ρ ([wB p s nc nt nl 1 2 3, wC s nc, wT s nt 4, wL s nl, wR s nt].map (AObj.up ρ s0.loc.length)) fun loc' => s0.afterK loc' d0 ((int (kidsN s.tasks task way) : TV).up ρ s0.loc.length) K0) : CallAt prog al0 s0 98 as0 d0 K0 :=
  callx_kidsO ρ (kidsO_ok p s nc nt nl task way hn) cn_ ca_ co_ cl_ ck_
end Go.Proofs.AYT
namespace Go.Proofs.AYT
open Go Go.Proofs.AY Go.Proofs.Try
def plans112 : Plans := [(5, ⟨.take 0 false (.take 1 false (.take 2 false (.take 3 false (.take 5 false (.take 4 true (.take 6 true (.take 7 false (.alt 8 .done .done)))))))), [8], []⟩)]
theorem plans112_ok : plansOk plans112 (bodyOf f112) = true := by kernel_rfl
theorem begin_ok (p : DProg) (s : DSys) (nc nt nl t : Nat) (hn : s.tasks.length = nt) (hl : s.log.length = nl) (ht : t < nt) (hr : (tk s t).regs.length = 3) : CallOK prog 112 [ptr 0, int t] [wB p s nc nt nl 1 2 3, wC s nc, wT s nt 4, wL s nl, wR s nt] (fun r os => os = [wB p (beginS s t) nc nt nl 1 2 3, wC (beginS s t) nc, wT (beginS s t) nt 4, wL (beginS s t) nl, wR (beginS s t) nt] ∧ r = .t []) := by
  subst hl
  have hr' : (s.tasks.getD t default).regs.length = 3 := hr
  obtain ⟨S1, hS1⟩ : ∃ S1, S1 = setT s t { tk s t with since := s.clock, old := (tk s t).regs, frm := s.log.length, when := 0 } := ⟨_, rfl⟩
  have hn1 : S1.tasks.length = nt := by rw [hS1, setT_len]; exact hn
  have hR1 : wR S1 nt = wR s nt := by rw [hS1]; exact wR_set rfl
  refine fn_ [6] tab_ok hmo func112 rfl rfl plans112_ok rfl ?_
  repeat' ((conv => whnf); first | (refine And.intro ?_ ?_) | (intro _))
  all_goals (try simp only [Int.toNat_natCast] at *)
  all_goals first | omega | (simp only [ti3]; omega) | skip
  apply cut_ (fun u : Unit => True) (fun u : Unit => (⟨43, [(0, ptr 0), (1, int t)], [wB p S1 nc nt s.log.length 1 2 3, wC S1 nc, wT S1 nt 4, wL S1 s.log.length, wR S1 nt], []⟩ : St))
  · rw [hR1]
    subst hS1
    repeat' ((conv => whnf); first | (refine And.intro ?_ ?_) | (intro _))
    all_goals (try simp only [Int.toNat_natCast] at *)
    all_goals first | omega | rfl | skip
    apply to_ [7]
    refine And.intro ?_ ?_
    · exact fun _ _ => rfl
    (apply toAt_ [.all 0, .all 1, .all 2, .all 3, .all 4] (); rotate_left 1; exact ⟨rfl, rfl, rfl, rfl, ⟨rfl, rfl, trivial⟩, ⟨trivial, rfl, ⟨rfl, rfl, fun _ _ => rfl⟩, ⟨rfl, rfl, fun _ _ => rfl⟩, rfl, rfl, rfl, rfl, trivial⟩, ⟨trivial, rfl, rfl, rfl, fun _ _ => ⟨rfl, rfl, rfl, trivial⟩⟩, ⟨trivial, rfl, rfl, rfl, setLeJ (fun j x => eTaskO x 4 j) hn (fun _ _ _ => ⟨rfl, rfl, rfl, rfl, rfl, rfl, rfl, rfl, ⟨rfl, rfl, fun _ _ => rfl⟩, ⟨rfl, rfl, fun _ _ => rfl⟩, ⟨rfl, rfl, fun _ _ => rfl⟩, rfl, rfl, trivial⟩) ⟨rfl, rfl, rfl, rfl, rfl, rfl, rfl, rfl, ⟨rfl, hr.symm, fun _ _ => rfl⟩, ⟨rfl, rfl, fun _ _ => rfl⟩, ⟨rfl, rfl, fun _ _ => rfl⟩, rfl, rfl, trivial⟩⟩, ⟨trivial, rfl, rfl, rfl, fun _ _ => ⟨rfl, rfl, rfl, ⟨rfl, rfl, fun _ _ => rfl⟩, ⟨rfl, rfl, fun _ _ => rfl⟩, rfl, trivial⟩⟩, ⟨trivial, fun _ hi => ⟨hi, rfl, rfl, rfl, fun _ _ => ⟨rfl, trivial⟩⟩⟩, trivial⟩)
    trivial
  · intro _ _
    have hfin : setT S1 t { tk S1 t with stage := 1, at_ := 0 } = beginS s t := by
      rw [hS1, tk_setT (by omega), setT_setT]; rfl
    have hR5 : wR (setT S1 t { tk S1 t with stage := 1, at_ := 0 }) nt = wR S1 nt := wR_set rfl
    rw [← hfin]
    repeat' ((conv => whnf); first | (refine And.intro ?_ ?_) | (intro _) | (apply call0_ (g := 115); refine call_stage [.all 0, .all 1, .all 2, .all 3, .all 4] (s := S1) hn1 ht rfl ⟨rfl, rfl, rfl, trivial⟩ ⟨⟨trivial, rfl, ⟨rfl, rfl, fun _ _ => rfl⟩, ⟨rfl, rfl, fun _ _ => rfl⟩, rfl, rfl, rfl, rfl, trivial⟩, ⟨trivial, rfl, rfl, rfl, fun _ _ => ⟨rfl, rfl, rfl, trivial⟩⟩, ⟨trivial, rfl, rfl, rfl, fun _ _ => ⟨rfl, rfl, rfl, rfl, rfl, rfl, rfl, rfl, ⟨rfl, rfl, fun _ _ => rfl⟩, ⟨rfl, rfl, fun _ _ => rfl⟩, ⟨rfl, rfl, fun _ _ => rfl⟩, rfl, rfl, trivial⟩⟩, ⟨trivial, rfl, rfl, rfl, fun _ _ => ⟨rfl, rfl, rfl, ⟨rfl, rfl, fun _ _ => rfl⟩, ⟨rfl, rfl, fun _ _ => rfl⟩, rfl, trivial⟩⟩, ⟨trivial, fun _ hi => ⟨hi, rfl, rfl, rfl, fun _ _ => ⟨rfl, trivial⟩⟩⟩, trivial⟩ (by first | exact trivial | exact ⟨⟨rfl, Nat.le_refl _, trivial⟩, trivial⟩ | exact ⟨⟨rfl, trivial, ⟨rfl, trivial, ⟨rfl, trivial, ⟨rfl, trivial, ⟨rfl, trivial, trivial⟩⟩⟩⟩⟩, trivial⟩) ?_))
    apply ret_ []
    apply retAt_ [.all 0, .all 1, .all 2, .all 3, .all 4] (.t []) [wB p S1 nc nt s.log.length 1 2 3, wC S1 nc, wT (setT S1 t { tk S1 t with stage := 1, at_ := 0 }) nt 4, wL S1 s.log.length, wR S1 nt] rfl rfl
    · trivial
    · exact ⟨⟨trivial, rfl, ⟨rfl, rfl, fun _ _ => rfl⟩, ⟨rfl, rfl, fun _ _ => rfl⟩, rfl, rfl, rfl, rfl, trivial⟩, ⟨trivial, rfl, rfl, rfl, fun _ _ => ⟨rfl, rfl, rfl, trivial⟩⟩, ⟨trivial, rfl, rfl, rfl, fun _ _ => ⟨rfl, rfl, rfl, rfl, rfl, rfl, rfl, rfl, ⟨rfl, rfl, fun _ _ => rfl⟩, ⟨rfl, rfl, fun _ _ => rfl⟩, ⟨rfl, rfl, fun _ _ => rfl⟩, rfl, rfl, trivial⟩⟩, ⟨trivial, rfl, rfl, rfl, fun _ _ => ⟨rfl, rfl, rfl, ⟨rfl, rfl, fun _ _ => rfl⟩, ⟨rfl, rfl, fun _ _ => rfl⟩, rfl, trivial⟩⟩, ⟨trivial, fun _ hi => ⟨hi, rfl, rfl, rfl, fun _ _ => ⟨rfl, trivial⟩⟩⟩, trivial⟩
    · exact ⟨by rw [hR5]; rfl, rfl⟩
theorem callx_begin {al0 : Lim} {s0 : St} {as0 : List Operand} {d0 : Option Tmp} {K0 : St → Prop} {p : DProg} {s : DSys} {nc nt nl t : Nat} (ρ : List Sel) (cok_ : CallOK prog 112 [ptr 0, int t] [wB p s nc nt nl 1 2 3, wC s nc, wT s nt 4, wL s nl, wR s nt] (fun r os => os = [wB p (beginS s t) nc nt nl 1 2 3, wC (beginS s t) nc, wT (beginS s t) nt 4, wL (beginS s t) nl, wR (beginS s t) nt] ∧ r = .t [])) (cn_ : nodupB (keysOf ρ) = true) (ca_ : tvsLe ρ s0.loc.length (as0.map (ev s0)) [ptr 0, int t]) (co_ : locLe ρ s0.loc.length s0.loc s0.fz ρ [wB p s nc nt nl 1 2 3, wC s nc, wT s nt 4, wL s nl, wR s nt]) (cl_ : limP al0 s0.loc ρ True) (ck_ : placesK s0.loc ρ ([wB p (beginS s t) nc nt nl 1 2 3, wC (beginS s t) nc, wT (beginS s t) nt 4, wL (beginS s t) nl, wR (beginS s t) nt].map (AObj.up ρ s0.loc.length)) fun loc' => s0.afterK loc' d0 ((.t [] : TV).up ρ s0.loc.length) K0) : CallAt prog al0 s0 112 as0 d0 K0 :=
  callB ρ cok_ cn_ ca_ co_ cl_ (by rintro r os ⟨rfl, rfl⟩; exact ck_ )
theorem call_begin {al0 : Lim} {s0 : St} {as0 : List Operand} {d0 : Option Tmp} {K0 : St → Prop} {p : DProg} {s : DSys} {nc nt nl t : Nat} (ρ : List Sel) (hn : s.tasks.length = nt) (hl : s.log.length = nl) (ht : t < nt) (hr : (tk s t).regs.length = 3) (cn_ : nodupB (keysOf ρ) = true) (ca_ : tvsLe ρ s0.loc.length (as0.map (ev s0)) [ptr 0, int t]) (co_ : locLe ρ s0.loc.length s0.loc s0.fz ρ [wB p s nc nt nl 1 2 3, wC s nc, wT s nt 4, wL s nl, wR s nt]) (cl_ : limP al0 s0.loc ρ True) (ck_ : placesK s0.loc ρ ([wB p (beginS s t) nc nt nl 1 2 3, wC (beginS s t) nc, wT (beginS s t) nt 4, wL (beginS s t) nl, wR (beginS s t) nt].map (AObj.up ρ s0.loc.length)) fun loc' => s0.afterK loc' d0 ((.t [] : TV).up ρ s0.loc.length) K0) : CallAt prog al0 s0 112 as0 d0 K0 :=
  callx_begin ρ (begin_ok p s nc nt nl t hn hl ht hr) cn_ ca_ co_ cl_ ck_
end Go.Proofs.AYT
namespace Go.Proofs.AYT
open Go Go.Proofs.AY Go.Proofs.Try
def plans114 : Plans := [(5, ⟨.take 0 false (.take 1 false (.take 2 false (.take 3 false (.take 5 false (.take 6 false (.take 4 true (.take 7 true (.take 8 false (.take 9 false (.take 10 false (.alt 11 .done .done))))))))))), [11], []⟩)]
theorem plans114_ok : plansOk plans114 (bodyOf f114) = true := by kernel_rfl
theorem lock_ok (p : DProg) (s : DSys) (nc nt nl t : Nat) (hc : s.cells.length = nc) (hn : s.tasks.length = nt) (ht : t < nt) (ho : (tk s t).old.length = 3) (ha : 0 ≤ (tk s t).at_ ∧ (tk s t).at_ < (tk s t).puts.length) (hb : (tk s t).puts.length ≤ 1000000) (hk : 0 ≤ (putAt (tk s t)).cell ∧ (putAt (tk s t)).cell < nc) : CallOK prog 114 [ptr 0, int t] [wB p s nc nt nl 1 2 3, wC s nc, wT s nt 4, wL s nl, wR s nt] (fun r os => os = [wB p (lockS s t) nc nt nl 5 6 7, .dead, .dead, .dead, .dead, wC (lockS s t) nc, wT (lockS s t) nt 8, wL (lockS s t) nl, wR (lockS s t) nt] ∧ r = .t []) := by
  have hR1 : wR (setT (setC s (putAt (tk s t)).cell.toNat { s.cells.getD (putAt (tk s t)).cell.toNat default with lock := t }) t { tk s t with at_ := (tk s t).at_ + 1 }) nt = wR s nt := wR_set (s := setC s (putAt (tk s t)).cell.toNat { s.cells.getD (putAt (tk s t)).cell.toNat default with lock := t }) rfl
  unfold lockS
  obtain ⟨S2, hS2⟩ : ∃ S2, S2 = setT (setC s (putAt (tk s t)).cell.toNat { s.cells.getD (putAt (tk s t)).cell.toNat default with lock := t }) t { tk s t with at_ := (tk s t).at_ + 1 } := ⟨_, rfl⟩
  have hfin : setT S2 t { tk S2 t with stage := 3, at_ := 0 } = setT (setC s (putAt (tk s t)).cell.toNat { s.cells.getD (putAt (tk s t)).cell.toNat default with lock := t }) t { tk s t with stage := 3, at_ := 0 } := by
    have ht' : t < (setC s (putAt (tk s t)).cell.toNat { s.cells.getD (putAt (tk s t)).cell.toNat default with lock := t }).tasks.length := by show t < s.tasks.length; omega
    rw [hS2, tk_setT ht', setT_setT]
  have hn2 : S2.tasks.length = nt := by rw [hS2, setT_len]; exact hn
  rw [← hfin, ← hS2]
  rw [← hS2] at hR1
  have hb' : (s.tasks.getD t default).puts.length ≤ 1000000 := hb
  have ha' : 0 ≤ (s.tasks.getD t default).at_ ∧ (s.tasks.getD t default).at_ < (s.tasks.getD t default).puts.length := ha
  have hk' : 0 ≤ ((s.tasks.getD t default).puts.getD (s.tasks.getD t default).at_.toNat default).cell ∧ ((s.tasks.getD t default).puts.getD (s.tasks.getD t default).at_.toNat default).cell < nc := hk
  refine fn_ [6] tab_ok hmo func114 rfl rfl plans114_ok rfl ?_
  repeat' ((conv => whnf); first | (refine And.intro ?_ ?_) | (intro _) | (apply call0_ (g := 120); refine call_again [.all 0, .all 1, .all 2, .all 3, .all 4] hc hn ht ho rfl ⟨rfl, rfl, trivial⟩ ⟨⟨trivial, rfl, ⟨rfl, rfl, fun _ _ => rfl⟩, ⟨rfl, rfl, fun _ _ => rfl⟩, rfl, rfl, rfl, rfl, trivial⟩, ⟨trivial, rfl, rfl, rfl, fun _ _ => ⟨rfl, rfl, rfl, trivial⟩⟩, ⟨trivial, rfl, rfl, rfl, fun _ _ => ⟨rfl, rfl, rfl, rfl, rfl, rfl, rfl, rfl, ⟨rfl, rfl, fun _ _ => rfl⟩, ⟨rfl, rfl, fun _ _ => rfl⟩, ⟨rfl, rfl, fun _ _ => rfl⟩, rfl, rfl, trivial⟩⟩, ⟨trivial, rfl, rfl, rfl, fun _ _ => ⟨rfl, rfl, rfl, ⟨rfl, rfl, fun _ _ => rfl⟩, ⟨rfl, rfl, fun _ _ => rfl⟩, rfl, trivial⟩⟩, ⟨trivial, fun _ hi => ⟨hi, rfl, rfl, rfl, fun _ _ => ⟨rfl, trivial⟩⟩⟩, trivial⟩ (by first | exact trivial | exact ⟨⟨rfl, Nat.le_refl _, trivial⟩, trivial⟩ | exact ⟨⟨rfl, trivial, ⟨rfl, trivial, ⟨rfl, trivial, ⟨rfl, trivial, ⟨rfl, trivial, trivial⟩⟩⟩⟩⟩, trivial⟩) ?_))
  all_goals (try simp only [Int.toNat_natCast] at *)
  all_goals first | omega | skip
  · rename_i hlk
    rw [if_pos hlk]
    apply ret_ []
    apply retAt_ [.all 0, .gone 1, .gone 2, .gone 3, .gone 4, .all 6, .all 7, .all 8, .all 9] (.t []) [wB p (againS s t) nc nt nl 5 6 7, .dead, .dead, .dead, .dead, wC (againS s t) nc, wT (againS s t) nt 8, wL (againS s t) nl, wR (againS s t) nt] rfl rfl
    · trivial
    · exact ⟨⟨trivial, rfl, ⟨rfl, rfl, fun _ _ => rfl⟩, ⟨rfl, rfl, fun _ _ => rfl⟩, rfl, rfl, rfl, rfl, trivial⟩, trivial, trivial, trivial, trivial, ⟨trivial, rfl, rfl, rfl, fun _ _ => ⟨rfl, rfl, rfl, trivial⟩⟩, ⟨trivial, rfl, rfl, rfl, fun _ _ => ⟨rfl, rfl, rfl, rfl, rfl, rfl, rfl, rfl, ⟨rfl, rfl, fun _ _ => rfl⟩, ⟨rfl, rfl, fun _ _ => rfl⟩, ⟨rfl, rfl, fun _ _ => rfl⟩, rfl, rfl, trivial⟩⟩, ⟨trivial, rfl, rfl, rfl, fun _ _ => ⟨rfl, rfl, rfl, ⟨rfl, rfl, fun _ _ => rfl⟩, ⟨rfl, rfl, fun _ _ => rfl⟩, rfl, trivial⟩⟩, ⟨trivial, fun _ hi => ⟨hi, rfl, rfl, rfl, fun _ _ => ⟨rfl, trivial⟩⟩⟩, trivial⟩
    · exact ⟨rfl, rfl⟩
  · rename_i hlk
    rw [if_neg hlk]
    apply cut_ (fun u : Unit => True) (fun u : Unit => (⟨64, [(0, ptr 0), (1, int t), (4, ptr 5)], [wB p S2 nc nt nl 1 2 3, wC S2 nc, wT S2 nt 4, wL S2 nl, wR S2 nt, .box 49 (eTaskO (tk s t) 4 t)], []⟩ : St))
    · rw [hR1]
      subst hS2
      repeat' ((conv => whnf); first | (refine And.intro ?_ ?_) | (intro _))
      all_goals (try simp only [Int.toNat_natCast] at *)
      all_goals first | omega | skip
      (apply to_ []; apply toAt_ [.all 0, .all 1, .all 2, .all 3, .all 4, .all 5] (); rotate_left 1; exact ⟨rfl, rfl, rfl, rfl, ⟨rfl, rfl, rfl, trivial⟩, ⟨trivial, rfl, ⟨rfl, rfl, fun _ _ => rfl⟩, ⟨rfl, rfl, fun _ _ => rfl⟩, rfl, rfl, rfl, rfl, trivial⟩, ⟨trivial, rfl, rfl, rfl, setLeJ (fun _ x => eCell x) hc (fun _ _ _ => ⟨rfl, rfl, rfl, trivial⟩) ⟨rfl, rfl, rfl, trivial⟩⟩, ⟨trivial, rfl, rfl, rfl, setLeJ (fun j x => eTaskO x 4 j) hn (fun _ _ _ => ⟨rfl, rfl, rfl, rfl, rfl, rfl, rfl, rfl, ⟨rfl, rfl, fun _ _ => rfl⟩, ⟨rfl, rfl, fun _ _ => rfl⟩, ⟨rfl, rfl, fun _ _ => rfl⟩, rfl, rfl, trivial⟩) ⟨rfl, rfl, rfl, rfl, rfl, rfl, rfl, rfl, ⟨rfl, rfl, fun _ _ => rfl⟩, ⟨rfl, rfl, fun _ _ => rfl⟩, ⟨rfl, rfl, fun _ _ => rfl⟩, rfl, rfl, trivial⟩⟩, ⟨trivial, rfl, rfl, rfl, fun _ _ => ⟨rfl, rfl, rfl, ⟨rfl, rfl, fun _ _ => rfl⟩, ⟨rfl, rfl, fun _ _ => rfl⟩, rfl, trivial⟩⟩, ⟨trivial, fun _ hi => ⟨hi, rfl, rfl, rfl, fun _ _ => ⟨rfl, trivial⟩⟩⟩, ⟨trivial, rfl, rfl, rfl, rfl, rfl, rfl, rfl, rfl, rfl, ⟨rfl, rfl, fun _ _ => rfl⟩, ⟨rfl, rfl, fun _ _ => rfl⟩, ⟨rfl, rfl, fun _ _ => rfl⟩, rfl, rfl, trivial⟩, trivial⟩)
      trivial
    · intro _ _
      repeat' ((conv => whnf); first | (refine And.intro ?_ ?_) | (intro _) | (apply call0_ (g := 115); refine call_stage [.all 0, .all 1, .all 2, .all 3, .all 4] (s := S2) hn2 ht rfl ⟨rfl, rfl, rfl, trivial⟩ ⟨⟨trivial, rfl, ⟨rfl, rfl, fun _ _ => rfl⟩, ⟨rfl, rfl, fun _ _ => rfl⟩, rfl, rfl, rfl, rfl, trivial⟩, ⟨trivial, rfl, rfl, rfl, fun _ _ => ⟨rfl, rfl, rfl, trivial⟩⟩, ⟨trivial, rfl, rfl, rfl, fun _ _ => ⟨rfl, rfl, rfl, rfl, rfl, rfl, rfl, rfl, ⟨rfl, rfl, fun _ _ => rfl⟩, ⟨rfl, rfl, fun _ _ => rfl⟩, ⟨rfl, rfl, fun _ _ => rfl⟩, rfl, rfl, trivial⟩⟩, ⟨trivial, rfl, rfl, rfl, fun _ _ => ⟨rfl, rfl, rfl, ⟨rfl, rfl, fun _ _ => rfl⟩, ⟨rfl, rfl, fun _ _ => rfl⟩, rfl, trivial⟩⟩, ⟨trivial, fun _ hi => ⟨hi, rfl, rfl, rfl, fun _ _ => ⟨rfl, trivial⟩⟩⟩, trivial⟩ (by first | exact trivial | exact ⟨⟨rfl, Nat.le_refl _, trivial⟩, trivial⟩ | exact ⟨⟨rfl, trivial, ⟨rfl, trivial, ⟨rfl, trivial, ⟨rfl, trivial, ⟨rfl, trivial, trivial⟩⟩⟩⟩⟩, trivial⟩) ?_))
      all_goals (try simp only [Int.toNat_natCast] at *)
      all_goals first | omega | skip
      · rename_i he
        rw [if_pos he]
        apply ret_ []
        have hR5 : wR (setT S2 t { tk S2 t with stage := 3, at_ := 0 }) nt = wR S2 nt := wR_set rfl
        apply retAt_ [.all 0, .gone 1, .gone 2, .gone 3, .gone 4, .all 1, .all 2, .all 3, .all 4] (.t []) [wB p S2 nc nt nl 5 6 7, .dead, .dead, .dead, .dead, wC S2 nc, wT (setT S2 t { tk S2 t with stage := 3, at_ := 0 }) nt 8, wL S2 nl, wR S2 nt] rfl rfl
        · trivial
        · exact ⟨⟨trivial, rfl, ⟨rfl, rfl, fun _ _ => rfl⟩, ⟨rfl, rfl, fun _ _ => rfl⟩, rfl, rfl, rfl, rfl, trivial⟩, trivial, trivial, trivial, trivial, ⟨trivial, rfl, rfl, rfl, fun _ _ => ⟨rfl, rfl, rfl, trivial⟩⟩, ⟨trivial, rfl, rfl, rfl, fun _ _ => ⟨rfl, rfl, rfl, rfl, rfl, rfl, rfl, rfl, ⟨rfl, rfl, fun _ _ => rfl⟩, ⟨rfl, rfl, fun _ _ => rfl⟩, ⟨rfl, rfl, fun _ _ => rfl⟩, rfl, rfl, trivial⟩⟩, ⟨trivial, rfl, rfl, rfl, fun _ _ => ⟨rfl, rfl, rfl, ⟨rfl, rfl, fun _ _ => rfl⟩, ⟨rfl, rfl, fun _ _ => rfl⟩, rfl, trivial⟩⟩, ⟨trivial, fun _ hi => ⟨hi, rfl, rfl, rfl, fun _ _ => ⟨rfl, trivial⟩⟩⟩, trivial⟩
        · exact ⟨by rw [hR5]; rfl, rfl⟩
      · rename_i he
        rw [if_neg he]
        apply ret_ []
        apply retAt_ [.all 0, .gone 1, .gone 2, .gone 3, .gone 4, .all 1, .all 2, .all 3, .all 4] (.t []) [wB p S2 nc nt nl 5 6 7, .dead, .dead, .dead, .dead, wC S2 nc, wT S2 nt 8, wL S2 nl, wR S2 nt] rfl rfl
        · trivial
        · exact ⟨⟨trivial, rfl, ⟨rfl, rfl, fun _ _ => rfl⟩, ⟨rfl, rfl, fun _ _ => rfl⟩, rfl, rfl, rfl, rfl, trivial⟩, trivial, trivial, trivial, trivial, ⟨trivial, rfl, rfl, rfl, fun _ _ => ⟨rfl, rfl, rfl, trivial⟩⟩, ⟨trivial, rfl, rfl, rfl, fun _ _ => ⟨rfl, rfl, rfl, rfl, rfl, rfl, rfl, rfl, ⟨rfl, rfl, fun _ _ => rfl⟩, ⟨rfl, rfl, fun _ _ => rfl⟩, ⟨rfl, rfl, fun _ _ => rfl⟩, rfl, rfl, trivial⟩⟩, ⟨trivial, rfl, rfl, rfl, fun _ _ => ⟨rfl, rfl, rfl, ⟨rfl, rfl, fun _ _ => rfl⟩, ⟨rfl, rfl, fun _ _ => rfl⟩, rfl, trivial⟩⟩, ⟨trivial, fun _ hi => ⟨hi, rfl, rfl, rfl, fun _ _ => ⟨rfl, trivial⟩⟩⟩, trivial⟩
        · exact ⟨rfl, rfl⟩
theorem callx_lock {al0 : Lim} {s0 : St} {as0 : List Operand} {d0 : Option Tmp} {K0 : St → Prop} {p : DProg} {s : DSys} {nc nt nl t : Nat} (ρ : List Sel) (cok_ : CallOK prog 114 [ptr 0, int t] [wB p s nc nt nl 1 2 3, wC s nc, wT s nt 4, wL s nl, wR s nt] (fun r os => os = [wB p (lockS s t) nc nt nl 5 6 7, .dead, .dead, .dead, .dead, wC (lockS s t) nc, wT (lockS s t) nt 8, wL (lockS s t) nl, wR (lockS s t) nt] ∧ r = .t [])) (cn_ : nodupB (keysOf ρ) = true) (ca_ : tvsLe ρ s0.loc.length (as0.map (ev s0)) [ptr 0, int t]) (co_ : locLe ρ s0.loc.length s0.loc s0.fz ρ [wB p s nc nt nl 1 2 3, wC s nc, wT s nt 4, wL s nl, wR s nt]) (cl_ : limP al0 s0.loc ρ True) (ck_ : placesK s0.loc ρ ([wB p (lockS s t) nc nt nl 5 6 7, .dead, .dead, .dead, .dead, wC (lockS s t) nc, wT (lockS s t) nt 8, wL (lockS s t) nl, wR (lockS s t) nt].map (AObj.up ρ s0.loc.length)) fun loc' => s0.afterK loc' d0 ((.t [] : TV).up ρ s0.loc.length) K0) : CallAt prog al0 s0 114 as0 d0 K0 :=
  callB ρ cok_ cn_ ca_ co_ cl_ (by rintro r os ⟨rfl, rfl⟩; exact ck_ )
theorem call_lock {al0 : Lim} {s0 : St} {as0 : List Operand} {d0 : Option Tmp} {K0 : St → Prop} {p : DProg} {s : DSys} {nc nt nl t : Nat} (ρ : List Sel) (hc : s.cells.length = nc) (hn : s.tasks.length = nt) (ht : t < nt) (ho : (tk s t).old.length = 3) (ha : 0 ≤ (tk s t).at_ ∧ (tk s t).at_ < (tk s t).puts.length) (hb : (tk s t).puts.length ≤ 1000000) (hk : 0 ≤ (putAt (tk s t)).cell ∧ (putAt (tk s t)).cell < nc) (cn_ : nodupB (keysOf ρ) = true) (ca_ : tvsLe ρ s0.loc.length (as0.map (ev s0)) [ptr 0, int t]) (co_ : locLe ρ s0.loc.length s0.loc s0.fz ρ [wB p s nc nt nl 1 2 3, wC s nc, wT s nt 4, wL s nl, wR s nt]) (cl_ : limP al0 s0.loc ρ True) (ck_ : placesK s0.loc ρ ([wB p (lockS s t) nc nt nl 5 6 7, .dead, .dead, .dead, .dead, wC (lockS s t) nc, wT (lockS s t) nt 8, wL (lockS s t) nl, wR (lockS s t) nt].map (AObj.up ρ s0.loc.length)) fun loc' => s0.afterK loc' d0 ((.t [] : TV).up ρ s0.loc.length) K0) : CallAt prog al0 s0 114 as0 d0 K0 :=
  callx_lock ρ (lock_ok p s nc nt nl t hc hn ht ho ha hb hk) cn_ ca_ co_ cl_ ck_
end Go.Proofs.AYT
namespace Go.Proofs.AYT
open Go Go.Proofs.AY Go.Proofs.Try
def plans121 : Plans := [(1, ⟨.take 0 false (.take 1 false (.take 2 false (.take 3 false (.take 4 false (.take 6 false (.take 7 false (.take 9 false (.take 10 false (.take 13 false (.take 16 false (.take 5 true (.take 8 true (.take 11 true (.take 14 true (.take 17 true (.alt 12 (.alt 15 (.take 18 false (.alt 19 (.alt 20 (.take 21 false (.take 22 false (.take 23 false (.alt 24 .done .done)))) .done) .done)) .done) .done)))))))))))))))), [20, 24], []⟩),
  (2, ⟨.take 0 false (.take 1 false (.take 2 false (.take 3 false (.take 5 false (.take 6 false (.take 4 true (.take 7 true (.take 8 false (.take 9 false (.take 10 false (.alt 11 .done .done))))))))))), [11], []⟩)]
theorem plans121_ok : plansOk plans121 (bodyOf f121) = true := by kernel_rfl
theorem end__ok (p : DProg) (s : DSys) (nc nt nl t : Nat) (w : Int) (hn : s.tasks.length = nt) (hl : s.log.length = nl) (ht : t < nt) (hpc : 0 ≤ (tk s t).pc ∧ (tk s t).pc ≤ 1000000) (hrd : (tk s t).reads.length ≤ 1000000) (hpt : (tk s t).puts.length ≤ 1000000) (hnl : nl ≤ 1000000000) : CallOK prog 121 [ptr 0, int t, int w] [wB p s nc nt nl 1 2 3, wC s nc, wT s nt 4, wL s nl, wR s nt] (fun r os => os = [wB p (endS s t w) nc nt (nl + 1) 5 6 7, .dead, .dead, .dead, .dead, wC (endS s t w) nc, wT (endS s t w) nt 8, wL (endS s t w) (nl + 1), wR (endS s t w) nt] ∧ r = .t []) := by
  have hpc' : 0 ≤ (s.tasks.getD t default).pc ∧ (s.tasks.getD t default).pc ≤ 1000000 := hpc
  obtain ⟨S1, hS1⟩ : ∃ S1, S1 = logS s (endE s t w) := ⟨_, rfl⟩
  have hn1 : S1.tasks.length = nt := by rw [hS1]; exact hn
  refine fn_ [2, 3, 4, 5, 6, 7, 8] tab_ok hmo func121 rfl rfl plans121_ok rfl ?_
  repeat' ((conv => whnf); first | (refine And.intro ?_ ?_) | (intro _))
  all_goals (try simp only [Int.toNat_natCast] at *)
  all_goals first | omega | skip
  apply cut_ (fun u : Unit => True) (fun u : Unit => (⟨95, [(0, ptr 0), (1, int t), (6, ptr 6)], [wB p S1 nc nt (nl + 1) 1 2 5, wC S1 nc, wT S1 nt 4, .dead, wR S1 nt, wL S1 (nl + 1), .box 49 (eTaskO (tk S1 t) 4 t)], []⟩ : St))
  · subst hS1
    repeat' ((conv => whnf); first | (refine And.intro ?_ ?_) | (intro _) | (apply call0_ (g := 87); refine call_l11Puts [] (l := (tk s t).reads) (by omega) rfl ⟨⟨rfl, rfl, fun _ _ => rfl⟩, trivial⟩ trivial (by first | exact trivial | exact ⟨trivial, trivial⟩) ?_) | (apply call0_ (g := 87); refine call_l11Puts [] (l := (tk s t).puts) (by omega) rfl ⟨⟨rfl, rfl, fun _ _ => rfl⟩, trivial⟩ trivial (by first | exact trivial | exact ⟨trivial, trivial⟩) ?_))
    all_goals (try simp only [Int.toNat_natCast] at *)
    all_goals first | omega | (simp only [ti40]; omega) | skip
    all_goals
      (apply to_ []; apply toAt_ [.all 0, .all 1, .all 2, .gone 3, .all 4, .all 7, .all 5] (); rotate_left 1; exact ⟨rfl, rfl, rfl, rfl, ⟨rfl, rfl, rfl, trivial⟩, ⟨trivial, rfl, ⟨rfl, rfl, fun _ _ => rfl⟩, ⟨rfl, rfl, fun _ _ => rfl⟩, rfl, rfl, rfl, rfl, trivial⟩, ⟨trivial, rfl, rfl, rfl, fun _ _ => ⟨rfl, rfl, rfl, trivial⟩⟩, ⟨trivial, rfl, rfl, rfl, fun _ _ => ⟨rfl, rfl, rfl, rfl, rfl, rfl, rfl, rfl, ⟨rfl, rfl, fun _ _ => rfl⟩, ⟨rfl, rfl, fun _ _ => rfl⟩, ⟨rfl, rfl, fun _ _ => rfl⟩, rfl, rfl, trivial⟩⟩, trivial, ⟨trivial, fun _ hi => ⟨hi, rfl, rfl, rfl, fun _ _ => ⟨rfl, trivial⟩⟩⟩, ⟨trivial, rfl, rfl, rfl, snocLe hl (fun _ _ => ⟨rfl, rfl, rfl, ⟨rfl, rfl, fun _ _ => rfl⟩, ⟨rfl, rfl, fun _ _ => rfl⟩, rfl, trivial⟩) (fun _ => ⟨rfl, rfl, rfl, ⟨rfl, rfl, fun _ _ => rfl⟩, ⟨rfl, rfl, fun _ _ => rfl⟩, rfl, trivial⟩)⟩, ⟨trivial, rfl, rfl, rfl, rfl, rfl, rfl, rfl, rfl, rfl, ⟨rfl, rfl, fun _ _ => rfl⟩, ⟨rfl, rfl, fun _ _ => rfl⟩, ⟨rfl, rfl, fun _ _ => rfl⟩, rfl, rfl, trivial⟩, trivial⟩)
      trivial
  intro _ _
  obtain ⟨S2, hS2⟩ : ∃ S2, S2 = setT S1 t { tk S1 t with pc := (tk S1 t).pc + 1 } := ⟨_, rfl⟩
  have hn2 : S2.tasks.length = nt := by rw [hS2, setT_len]; exact hn1
  have hR2 : wR S2 nt = wR S1 nt := by rw [hS2]; exact wR_set rfl
  have hpc1 : 0 ≤ (tk S1 t).pc ∧ (tk S1 t).pc ≤ 1000000 := by rw [hS1]; exact hpc
  apply cut_ (fun u : Unit => True) (fun u : Unit => (⟨95, [(0, ptr 0), (1, int t)], [wB p S2 nc nt (nl + 1) 1 2 5, wC S2 nc, wT S2 nt 4, .dead, wR S2 nt, wL S2 (nl + 1)], []⟩ : St))
  · rw [hR2]
    subst hS2
    repeat' ((conv => whnf); first | (refine And.intro ?_ ?_) | (intro _))
    all_goals (try simp only [Int.toNat_natCast] at *)
    all_goals first | omega | rfl | skip
    (apply to_ []; apply toAt_ [.all 0, .all 1, .all 2, .gone 3, .all 4, .all 5] (); rotate_left 1; exact ⟨rfl, rfl, rfl, rfl, ⟨rfl, rfl, trivial⟩, ⟨trivial, rfl, ⟨rfl, rfl, fun _ _ => rfl⟩, ⟨rfl, rfl, fun _ _ => rfl⟩, rfl, rfl, rfl, rfl, trivial⟩, ⟨trivial, rfl, rfl, rfl, fun _ _ => ⟨rfl, rfl, rfl, trivial⟩⟩, ⟨trivial, rfl, rfl, rfl, setLeJ (fun j x => eTaskO x 4 j) hn1 (fun _ _ _ => ⟨rfl, rfl, rfl, rfl, rfl, rfl, rfl, rfl, ⟨rfl, rfl, fun _ _ => rfl⟩, ⟨rfl, rfl, fun _ _ => rfl⟩, ⟨rfl, rfl, fun _ _ => rfl⟩, rfl, rfl, trivial⟩) ⟨rfl, rfl, rfl, rfl, rfl, rfl, rfl, rfl, ⟨rfl, rfl, fun _ _ => rfl⟩, ⟨rfl, rfl, fun _ _ => rfl⟩, ⟨rfl, rfl, fun _ _ => rfl⟩, rfl, rfl, trivial⟩⟩, trivial, ⟨trivial, fun _ hi => ⟨hi, rfl, rfl, rfl, fun _ _ => ⟨rfl, trivial⟩⟩⟩, ⟨trivial, rfl, rfl, rfl, fun _ _ => ⟨rfl, rfl, rfl, ⟨rfl, rfl, fun _ _ => rfl⟩, ⟨rfl, rfl, fun _ _ => rfl⟩, rfl, trivial⟩⟩, trivial⟩)
    trivial
  intro _ _
  obtain ⟨S3, hS3⟩ : ∃ S3, S3 = setT S2 t { tk S2 t with reads := [] } := ⟨_, rfl⟩
  have hn3 : S3.tasks.length = nt := by rw [hS3, setT_len]; exact hn2
  have hR3 : wR S3 nt = wR S2 nt := by rw [hS3]; exact wR_set rfl
  apply cut_ (fun u : Unit => True) (fun u : Unit => (⟨95, [(0, ptr 0), (1, int t)], [wB p S3 nc nt (nl + 1) 1 2 5, wC S3 nc, wT S3 nt 4, .dead, wR S3 nt, wL S3 (nl + 1)], []⟩ : St))
  · rw [hR3]
    subst hS3
    repeat' ((conv => whnf); first | (refine And.intro ?_ ?_) | (intro _))
    all_goals (try simp only [Int.toNat_natCast] at *)
    all_goals first | omega | rfl | skip
    apply to_ [6]
    refine And.intro ?_ ?_
    · exact fun j hj => absurd hj (Nat.not_lt_zero _)
    (apply toAt_ [.all 0, .all 1, .all 2, .gone 3, .all 4, .all 5] (); rotate_left 1; exact ⟨rfl, rfl, rfl, rfl, ⟨rfl, rfl, trivial⟩, ⟨trivial, rfl, ⟨rfl, rfl, fun _ _ => rfl⟩, ⟨rfl, rfl, fun _ _ => rfl⟩, rfl, rfl, rfl, rfl, trivial⟩, ⟨trivial, rfl, rfl, rfl, fun _ _ => ⟨rfl, rfl, rfl, trivial⟩⟩, ⟨trivial, rfl, rfl, rfl, setLeJ (fun j x => eTaskO x 4 j) hn2 (fun _ _ _ => ⟨rfl, rfl, rfl, rfl, rfl, rfl, rfl, rfl, ⟨rfl, rfl, fun _ _ => rfl⟩, ⟨rfl, rfl, fun _ _ => rfl⟩, ⟨rfl, rfl, fun _ _ => rfl⟩, rfl, rfl, trivial⟩) ⟨rfl, rfl, rfl, rfl, rfl, rfl, rfl, rfl, ⟨rfl, rfl, fun _ _ => rfl⟩, ⟨rfl, rfl, fun j hj => absurd hj (Nat.not_lt_zero _)⟩, ⟨rfl, rfl, fun _ _ => rfl⟩, rfl, rfl, trivial⟩⟩, trivial, ⟨trivial, fun _ hi => ⟨hi, rfl, rfl, rfl, fun _ _ => ⟨rfl, trivial⟩⟩⟩, ⟨trivial, rfl, rfl, rfl, fun _ _ => ⟨rfl, rfl, rfl, ⟨rfl, rfl, fun _ _ => rfl⟩, ⟨rfl, rfl, fun _ _ => rfl⟩, rfl, trivial⟩⟩, trivial⟩)
    trivial
  intro _ _
  obtain ⟨S4, hS4⟩ : ∃ S4, S4 = setT S3 t { tk S3 t with puts := [] } := ⟨_, rfl⟩
  have hn4 : S4.tasks.length = nt := by rw [hS4, setT_len]; exact hn3
  have hR4 : wR S4 nt = wR S3 nt := by rw [hS4]; exact wR_set rfl
  apply cut_ (fun u : Unit => True) (fun u : Unit => (⟨95, [(0, ptr 0), (1, int t)], [wB p S4 nc nt (nl + 1) 1 2 5, wC S4 nc, wT S4 nt 4, .dead, wR S4 nt, wL S4 (nl + 1)], []⟩ : St))
  · rw [hR4]
    subst hS4
    repeat' ((conv => whnf); first | (refine And.intro ?_ ?_) | (intro _))
    all_goals (try simp only [Int.toNat_natCast] at *)
    all_goals first | omega | rfl | skip
    apply to_ [6]
    refine And.intro ?_ ?_
    · exact fun j hj => absurd hj (Nat.not_lt_zero _)
    (apply toAt_ [.all 0, .all 1, .all 2, .gone 3, .all 4, .all 5] (); rotate_left 1; exact ⟨rfl, rfl, rfl, rfl, ⟨rfl, rfl, trivial⟩, ⟨trivial, rfl, ⟨rfl, rfl, fun _ _ => rfl⟩, ⟨rfl, rfl, fun _ _ => rfl⟩, rfl, rfl, rfl, rfl, trivial⟩, ⟨trivial, rfl, rfl, rfl, fun _ _ => ⟨rfl, rfl, rfl, trivial⟩⟩, ⟨trivial, rfl, rfl, rfl, setLeJ (fun j x => eTaskO x 4 j) hn3 (fun _ _ _ => ⟨rfl, rfl, rfl, rfl, rfl, rfl, rfl, rfl, ⟨rfl, rfl, fun _ _ => rfl⟩, ⟨rfl, rfl, fun _ _ => rfl⟩, ⟨rfl, rfl, fun _ _ => rfl⟩, rfl, rfl, trivial⟩) ⟨rfl, rfl, rfl, rfl, rfl, rfl, rfl, rfl, ⟨rfl, rfl, fun _ _ => rfl⟩, ⟨rfl, rfl, fun _ _ => rfl⟩, ⟨rfl, rfl, fun j hj => absurd hj (Nat.not_lt_zero _)⟩, rfl, rfl, trivial⟩⟩, trivial, ⟨trivial, fun _ hi => ⟨hi, rfl, rfl, rfl, fun _ _ => ⟨rfl, trivial⟩⟩⟩, ⟨trivial, rfl, rfl, rfl, fun _ _ => ⟨rfl, rfl, rfl, ⟨rfl, rfl, fun _ _ => rfl⟩, ⟨rfl, rfl, fun _ _ => rfl⟩, rfl, trivial⟩⟩, trivial⟩)
    trivial
  intro _ _
  obtain ⟨S5, hS5⟩ : ∃ S5, S5 = setT S4 t { tk S4 t with since := 0 } := ⟨_, rfl⟩
  have hn5 : S5.tasks.length = nt := by rw [hS5, setT_len]; exact hn4
  have hR5 : wR S5 nt = wR S4 nt := by rw [hS5]; exact wR_set rfl
  apply cut_ (fun u : Unit => True) (fun u : Unit => (⟨95, [(0, ptr 0), (1, int t)], [wB p S5 nc nt (nl + 1) 1 2 5, wC S5 nc, wT S5 nt 4, .dead, wR S5 nt, wL S5 (nl + 1)], []⟩ : St))
  · rw [hR5]
    subst hS5
    repeat' ((conv => whnf); first | (refine And.intro ?_ ?_) | (intro _))
    all_goals (try simp only [Int.toNat_natCast] at *)
    all_goals first | omega | rfl | skip
    (apply to_ []; apply toAt_ [.all 0, .all 1, .all 2, .gone 3, .all 4, .all 5] (); rotate_left 1; exact ⟨rfl, rfl, rfl, rfl, ⟨rfl, rfl, trivial⟩, ⟨trivial, rfl, ⟨rfl, rfl, fun _ _ => rfl⟩, ⟨rfl, rfl, fun _ _ => rfl⟩, rfl, rfl, rfl, rfl, trivial⟩, ⟨trivial, rfl, rfl, rfl, fun _ _ => ⟨rfl, rfl, rfl, trivial⟩⟩, ⟨trivial, rfl, rfl, rfl, setLeJ (fun j x => eTaskO x 4 j) hn4 (fun _ _ _ => ⟨rfl, rfl, rfl, rfl, rfl, rfl, rfl, rfl, ⟨rfl, rfl, fun _ _ => rfl⟩, ⟨rfl, rfl, fun _ _ => rfl⟩, ⟨rfl, rfl, fun _ _ => rfl⟩, rfl, rfl, trivial⟩) ⟨rfl, rfl, rfl, rfl, rfl, rfl, rfl, rfl, ⟨rfl, rfl, fun _ _ => rfl⟩, ⟨rfl, rfl, fun _ _ => rfl⟩, ⟨rfl, rfl, fun _ _ => rfl⟩, rfl, rfl, trivial⟩⟩, trivial, ⟨trivial, fun _ hi => ⟨hi, rfl, rfl, rfl, fun _ _ => ⟨rfl, trivial⟩⟩⟩, ⟨trivial, rfl, rfl, rfl, fun _ _ => ⟨rfl, rfl, rfl, ⟨rfl, rfl, fun _ _ => rfl⟩, ⟨rfl, rfl, fun _ _ => rfl⟩, rfl, trivial⟩⟩, trivial⟩)
    trivial
  intro _ _
  obtain ⟨S6, hS6⟩ : ∃ S6, S6 = setT S5 t { tk S5 t with when := 0 } := ⟨_, rfl⟩
  have hn6 : S6.tasks.length = nt := by rw [hS6, setT_len]; exact hn5
  have hR6 : wR S6 nt = wR S5 nt := by rw [hS6]; exact wR_set rfl
  apply cut_ (fun u : Unit => True) (fun u : Unit => (⟨95, [(0, ptr 0), (1, int t)], [wB p S6 nc nt (nl + 1) 1 2 5, wC S6 nc, wT S6 nt 4, .dead, wR S6 nt, wL S6 (nl + 1)], []⟩ : St))
  · rw [hR6]
    subst hS6
    repeat' ((conv => whnf); first | (refine And.intro ?_ ?_) | (intro _))
    all_goals (try simp only [Int.toNat_natCast] at *)
    all_goals first | omega | rfl | skip
    (apply to_ []; apply toAt_ [.all 0, .all 1, .all 2, .gone 3, .all 4, .all 5] (); rotate_left 1; exact ⟨rfl, rfl, rfl, rfl, ⟨rfl, rfl, trivial⟩, ⟨trivial, rfl, ⟨rfl, rfl, fun _ _ => rfl⟩, ⟨rfl, rfl, fun _ _ => rfl⟩, rfl, rfl, rfl, rfl, trivial⟩, ⟨trivial, rfl, rfl, rfl, fun _ _ => ⟨rfl, rfl, rfl, trivial⟩⟩, ⟨trivial, rfl, rfl, rfl, setLeJ (fun j x => eTaskO x 4 j) hn5 (fun _ _ _ => ⟨rfl, rfl, rfl, rfl, rfl, rfl, rfl, rfl, ⟨rfl, rfl, fun _ _ => rfl⟩, ⟨rfl, rfl, fun _ _ => rfl⟩, ⟨rfl, rfl, fun _ _ => rfl⟩, rfl, rfl, trivial⟩) ⟨rfl, rfl, rfl, rfl, rfl, rfl, rfl, rfl, ⟨rfl, rfl, fun _ _ => rfl⟩, ⟨rfl, rfl, fun _ _ => rfl⟩, ⟨rfl, rfl, fun _ _ => rfl⟩, rfl, rfl, trivial⟩⟩, trivial, ⟨trivial, fun _ hi => ⟨hi, rfl, rfl, rfl, fun _ _ => ⟨rfl, trivial⟩⟩⟩, ⟨trivial, rfl, rfl, rfl, fun _ _ => ⟨rfl, rfl, rfl, ⟨rfl, rfl, fun _ _ => rfl⟩, ⟨rfl, rfl, fun _ _ => rfl⟩, rfl, trivial⟩⟩, trivial⟩)
    trivial
  intro _ _
  obtain ⟨S7, hS7⟩ : ∃ S7, S7 = setT S6 t { tk S6 t with frm := 0 } := ⟨_, rfl⟩
  have hn7 : S7.tasks.length = nt := by rw [hS7, setT_len]; exact hn6
  have hR7 : wR S7 nt = wR S6 nt := by rw [hS7]; exact wR_set rfl
  apply cut_ (fun u : Unit => True) (fun u : Unit => (⟨95, [(0, ptr 0), (1, int t)], [wB p S7 nc nt (nl + 1) 1 2 5, wC S7 nc, wT S7 nt 4, .dead, wR S7 nt, wL S7 (nl + 1)], []⟩ : St))
  · rw [hR7]
    subst hS7
    repeat' ((conv => whnf); first | (refine And.intro ?_ ?_) | (intro _))
    all_goals (try simp only [Int.toNat_natCast] at *)
    all_goals first | omega | rfl | skip
    (apply to_ []; apply toAt_ [.all 0, .all 1, .all 2, .gone 3, .all 4, .all 5] (); rotate_left 1; exact ⟨rfl, rfl, rfl, rfl, ⟨rfl, rfl, trivial⟩, ⟨trivial, rfl, ⟨rfl, rfl, fun _ _ => rfl⟩, ⟨rfl, rfl, fun _ _ => rfl⟩, rfl, rfl, rfl, rfl, trivial⟩, ⟨trivial, rfl, rfl, rfl, fun _ _ => ⟨rfl, rfl, rfl, trivial⟩⟩, ⟨trivial, rfl, rfl, rfl, setLeJ (fun j x => eTaskO x 4 j) hn6 (fun _ _ _ => ⟨rfl, rfl, rfl, rfl, rfl, rfl, rfl, rfl, ⟨rfl, rfl, fun _ _ => rfl⟩, ⟨rfl, rfl, fun _ _ => rfl⟩, ⟨rfl, rfl, fun _ _ => rfl⟩, rfl, rfl, trivial⟩) ⟨rfl, rfl, rfl, rfl, rfl, rfl, rfl, rfl, ⟨rfl, rfl, fun _ _ => rfl⟩, ⟨rfl, rfl, fun _ _ => rfl⟩, ⟨rfl, rfl, fun _ _ => rfl⟩, rfl, rfl, trivial⟩⟩, trivial, ⟨trivial, fun _ hi => ⟨hi, rfl, rfl, rfl, fun _ _ => ⟨rfl, trivial⟩⟩⟩, ⟨trivial, rfl, rfl, rfl, fun _ _ => ⟨rfl, rfl, rfl, ⟨rfl, rfl, fun _ _ => rfl⟩, ⟨rfl, rfl, fun _ _ => rfl⟩, rfl, trivial⟩⟩, trivial⟩)
    trivial
  intro _ _
  have hfin : setT S7 t { tk S7 t with stage := 0, at_ := 0 } = endS s t w := by
    have ht' : t < (logS s (endE s t w)).tasks.length := by show t < s.tasks.length; omega
    rw [hS7, tk_setT (by omega), setT_setT, hS6, tk_setT (by omega), setT_setT, hS5, tk_setT (by omega), setT_setT, hS4, tk_setT (by omega), setT_setT, hS3, tk_setT (by omega), setT_setT, hS2, tk_setT (by omega), setT_setT, hS1]; rfl
  have hR8 : wR (setT S7 t { tk S7 t with stage := 0, at_ := 0 }) nt = wR S7 nt := wR_set rfl
  rw [← hfin]
  repeat' ((conv => whnf); first | (refine And.intro ?_ ?_) | (intro _) | (apply call0_ (g := 115); refine call_stage [.all 0, .all 1, .all 2, .all 5, .all 4] (s := S7) hn7 ht rfl ⟨rfl, rfl, rfl, trivial⟩ ⟨⟨trivial, rfl, ⟨rfl, rfl, fun _ _ => rfl⟩, ⟨rfl, rfl, fun _ _ => rfl⟩, rfl, rfl, rfl, rfl, trivial⟩, ⟨trivial, rfl, rfl, rfl, fun _ _ => ⟨rfl, rfl, rfl, trivial⟩⟩, ⟨trivial, rfl, rfl, rfl, fun _ _ => ⟨rfl, rfl, rfl, rfl, rfl, rfl, rfl, rfl, ⟨rfl, rfl, fun _ _ => rfl⟩, ⟨rfl, rfl, fun _ _ => rfl⟩, ⟨rfl, rfl, fun _ _ => rfl⟩, rfl, rfl, trivial⟩⟩, ⟨trivial, rfl, rfl, rfl, fun _ _ => ⟨rfl, rfl, rfl, ⟨rfl, rfl, fun _ _ => rfl⟩, ⟨rfl, rfl, fun _ _ => rfl⟩, rfl, trivial⟩⟩, ⟨trivial, fun _ hi => ⟨hi, rfl, rfl, rfl, fun _ _ => ⟨rfl, trivial⟩⟩⟩, trivial⟩ (by first | exact trivial | exact ⟨⟨rfl, Nat.le_refl _, trivial⟩, trivial⟩ | exact ⟨⟨rfl, trivial, ⟨rfl, trivial, ⟨rfl, trivial, ⟨rfl, trivial, ⟨rfl, trivial, trivial⟩⟩⟩⟩⟩, trivial⟩) ?_))
  apply ret_ []
  apply retAt_ [.all 0, .gone 1, .gone 2, .gone 3, .gone 4, .all 1, .all 2, .all 5, .all 4] (.t []) [wB p S7 nc nt (nl + 1) 5 6 7, .dead, .dead, .dead, .dead, wC S7 nc, wT (setT S7 t { tk S7 t with stage := 0, at_ := 0 }) nt 8, wL S7 (nl + 1), wR S7 nt] rfl rfl
  · trivial
  · exact ⟨⟨trivial, rfl, ⟨rfl, rfl, fun _ _ => rfl⟩, ⟨rfl, rfl, fun _ _ => rfl⟩, rfl, rfl, rfl, rfl, trivial⟩, trivial, trivial, trivial, trivial, ⟨trivial, rfl, rfl, rfl, fun _ _ => ⟨rfl, rfl, rfl, trivial⟩⟩, ⟨trivial, rfl, rfl, rfl, fun _ _ => ⟨rfl, rfl, rfl, rfl, rfl, rfl, rfl, rfl, ⟨rfl, rfl, fun _ _ => rfl⟩, ⟨rfl, rfl, fun _ _ => rfl⟩, ⟨rfl, rfl, fun _ _ => rfl⟩, rfl, rfl, trivial⟩⟩, ⟨trivial, rfl, rfl, rfl, fun _ _ => ⟨rfl, rfl, rfl, ⟨rfl, rfl, fun _ _ => rfl⟩, ⟨rfl, rfl, fun _ _ => rfl⟩, rfl, trivial⟩⟩, ⟨trivial, fun _ hi => ⟨hi, rfl, rfl, rfl, fun _ _ => ⟨rfl, trivial⟩⟩⟩, trivial⟩
  · exact ⟨by rw [hR8]; rfl, rfl⟩
theorem callx_end_ {al0 : Lim} {s0 : St} {as0 : List Operand} {d0 : Option Tmp} {K0 : St → Prop} {p : DProg} {s : DSys} {nc nt nl t : Nat} {w : Int} (ρ : List Sel) (cok_ : CallOK prog 121 [ptr 0, int t, int w] [wB p s nc nt nl 1 2 3, wC s nc, wT s nt 4, wL s nl, wR s nt] (fun r os => os = [wB p (endS s t w) nc nt (nl + 1) 5 6 7, .dead, .dead, .dead, .dead, wC (endS s t w) nc, wT (endS s t w) nt 8, wL (endS s t w) (nl + 1), wR (endS s t w) nt] ∧ r = .t [])) (cn_ : nodupB (keysOf ρ) = true) (ca_ : tvsLe ρ s0.loc.length (as0.map (ev s0)) [ptr 0, int t, int w]) (co_ : locLe ρ s0.loc.length s0.loc s0.fz ρ [wB p s nc nt nl 1 2 3, wC s nc, wT s nt 4, wL s nl, wR s nt]) (cl_ : limP al0 s0.loc ρ True) (ck_ : placesK s0.loc ρ ([wB p (endS s t w) nc nt (nl + 1) 5 6 7, .dead, .dead, .dead, .dead, wC (endS s t w) nc, wT (endS s t w) nt 8, wL (endS s t w) (nl + 1), wR (endS s t w) nt].map (AObj.up ρ s0.loc.length)) fun loc' => s0.afterK loc' d0 ((.t [] : TV).up ρ s0.loc.length) K0) : CallAt prog al0 s0 121 as0 d0 K0 :=
  callB ρ cok_ cn_ ca_ co_ cl_ (by rintro r os ⟨rfl, rfl⟩; exact ck_ )
theorem call_end_ {al0 : Lim} {s0 : St} {as0 : List Operand} {d0 : Option Tmp} {K0 : St → Prop} {p : DProg} {s : DSys} {nc nt nl t : Nat} {w : Int} (ρ : List Sel) (hn : s.tasks.length = nt) (hl : s.log.length = nl) (ht : t < nt) (hpc : 0 ≤ (tk s t).pc ∧ (tk s t).pc ≤ 1000000) (hrd : (tk s t).reads.length ≤ 1000000) (hpt : (tk s t).puts.length ≤ 1000000) (hnl : nl ≤ 1000000000) (cn_ : nodupB (keysOf ρ) = true) (ca_ : tvsLe ρ s0.loc.length (as0.map (ev s0)) [ptr 0, int t, int w]) (co_ : locLe ρ s0.loc.length s0.loc s0.fz ρ [wB p s nc nt nl 1 2 3, wC s nc, wT s nt 4, wL s nl, wR s nt]) (cl_ : limP al0 s0.loc ρ True) (ck_ : placesK s0.loc ρ ([wB p (endS s t w) nc nt (nl + 1) 5 6 7, .dead, .dead, .dead, .dead, wC (endS s t w) nc, wT (endS s t w) nt 8, wL (endS s t w) (nl + 1), wR (endS s t w) nt].map (AObj.up ρ s0.loc.length)) fun loc' => s0.afterK loc' d0 ((.t [] : TV).up ρ s0.loc.length) K0) : CallAt prog al0 s0 121 as0 d0 K0 :=
  callx_end_ ρ (end__ok p s nc nt nl t w hn hl ht hpc hrd hpt hnl) cn_ ca_ co_ cl_ ck_
end Go.Proofs.AYT
