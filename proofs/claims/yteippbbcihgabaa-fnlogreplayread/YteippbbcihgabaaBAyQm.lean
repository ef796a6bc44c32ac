/- Plain words, and contracts of the program's functions. Conditions: as each theorem tells. -/
import Derived.Test.YteippbbcihgabaaBAyQl
set_option linter.unusedVariables false
set_option linter.unusedSimpArgs false
set_option linter.unusedSectionVars false
/- AY, part Qm: plain words: the numbers of drawn cells and of what a log makes of them. -/
namespace Go.Proofs.AY
open Go
abbrev numsP (cs : List Int) : Prop := ∀ j, j < cs.length → 0 ≤ cs.getD j default ∧ cs.getD j default ≤ 99
structure cellsN (cs : List Int) (L : List Entry) : Prop where
  h : cellsL cs L
  n : numsP cs
theorem logP.nums {P : DProg} {L : List Entry} (h : logP P L) : numsP P.cells := by
  obtain ⟨S, R, b, h1, _⟩ := h
  have hp := h1.1.1
  unfold progOk at hp
  rw [Bool.and_eq_true] at hp
  have hf := hp.1
  unfold formOk at hf
  simp only [Bool.and_eq_true] at hf
  exact fun j hj => of_decide_eq_true (all_at hf.2.1 hj)
theorem logP.cn {P : DProg} {L : List Entry} (h : logP P L) : cellsN P.cells L := ⟨h.cl, h.nums⟩
theorem cellsN.order {cs : List Int} {L : List Entry} (h : cellsN cs L) : cellsN cs (orderF L) := ⟨h.h.order, h.n⟩
theorem putI_nums {cs : List Int} {x : Put} (h : numsP cs) (hx : 0 ≤ x.num ∧ x.num ≤ 99) : numsP (putI cs x) := by
  unfold putI
  split
  · intro j hj
    rw [List.length_set] at hj
    rw [getD_set _ _ _ _ _ hj]
    split
    · exact hx
    · exact h j hj
  · exact h
theorem putsF_nums : ∀ {l : List Put} {cs : List Int}, numsP cs → (∀ x ∈ l, 0 ≤ x.num ∧ x.num ≤ 99) → numsP (putsF cs l)
  | [], _, h, _ => h
  | x :: l, cs, h, hx => putsF_nums (l := l) (putI_nums h (hx x List.mem_cons_self)) fun y hy => hx y (List.mem_cons_of_mem _ hy)
theorem replayF_nums : ∀ {L : List Entry} {cs ds : List Int}, numsP cs → (∀ x ∈ L, goodF x) → replayF cs L = some ds → numsP ds
  | [], cs, ds, h, _, e => by cases e; exact h
  | x :: L, cs, ds, h, hx, e => by
    have e : L.foldl replayS (replayS (some cs) x) = some ds := e
    have e1 : replayS (some cs) x = if readsB cs x.reads then some (putsF cs x.puts) else none := rfl
    rw [e1] at e
    split at e
    · refine replayF_nums (L := L) (putsF_nums h fun y hy => ?_) (fun y hy => hx y (List.mem_cons_of_mem _ hy)) e
      have hg := hx x List.mem_cons_self
      have := (listOk_iff.1 hg.2.2.2.2.2.2.2.2.2).1 y hy
      exact ⟨this.2.2.1, this.2.2.2⟩
    · rw [replay_none] at e; cases e
theorem replay_last {cs ds : List Int} {L : List Entry} {x y : Int} (h : replayF cs L = some ds) (hd : 1 ≤ ds.length) : replayF cs (L ++ [lastE x y]) = if ds.getD 0 default = x then some (ds.set 0 y) else none := by
  rw [replayF_app, h]
  show replayS (some ds) (lastE x y) = _
  have e1 : replayS (some ds) (lastE x y) = if readsB ds [⟨0, x⟩] then some (putsF ds [⟨0, y⟩]) else none := rfl
  have e2 : putsF ds [⟨0, y⟩] = ds.set 0 y := by
    show putI ds ⟨0, y⟩ = _
    unfold putI
    rw [if_pos (by exact ⟨Int.le_refl _, by show (0:Int) ≤ ds.length - 1; omega⟩)]; rfl
  have e3 : readsB ds [⟨0, x⟩] = decide (ds.getD 0 default = x) := by
    by_cases hx : ds.getD 0 default = x
    · rw [decide_eq_true hx]
      exact allTo_of fun j hj => by
        have hj : j < 1 := hj
        have : j = 0 := by omega
        subst this
        exact decide_eq_true ⟨Int.le_refl _, by show (0:Int) ≤ ds.length - 1; omega, hx⟩
    · rw [decide_eq_false hx]
      exact allTo_not (j := 0) (by simp) (decide_eq_false fun h => hx h.2.2)
  rw [e1, e2, e3]
  by_cases hx : ds.getD 0 default = x
  · rw [if_pos hx, if_pos (decide_eq_true hx)]
  · rw [if_neg hx, if_neg (by rw [decide_eq_false hx]; decide)]
theorem turn_ne {x : Int} (h0 : 0 ≤ x) (h1 : x ≤ 99) : x ≠ (x + 1).tmod 100 := by
  rw [Int.tmod_eq_emod_of_nonneg (by omega)]; omega
theorem oneLe {ρ : List Sel} {N : Nat} {fz : List (Nat × CV)} {F : Nat → List CV} {p : Put} (h : cvsLe ρ N (resL fz (F 0)) (ePut p)) : ∀ j, j < [p].length → cvsLe ρ N (resL fz (F j)) (ePut ([p].getD j default)) := fun j hj => by
  have hj : j < 1 := hj
  have e : j = 0 := by omega
  subst e
  exact h
theorem mEsLe {ρ : List Sel} {N : Nat} {fz : List (Nat × CV)} {F : Nat → List CV} {L : List Entry} (h1 : ∀ i, i < L.length → cvsLe ρ N (resL fz (F i)) (eEntry (L.getD i default))) (h2 : cvsLe ρ N (resL fz (F L.length)) (eME .own)) : ∀ j, j < (mEs L).length → cvsLe ρ N (resL fz (F j)) (eME ((mEs L).getD j default)) := fun j hj => by
  rw [mEs_len] at hj
  by_cases hi : j < L.length
  · rw [mEs_at hi]; exact h1 j hi
  · have e : j = L.length := by omega
    rw [mEs_last e]; subst e; exact h2
/-- What stands in an appended row. -/
theorem appLe {ρ : List Sel} {N : Nat} {fz : List (Nat × CV)} {G H : Nat → List CV} {L : List Entry} (h1 : ∀ x, cvsLe ρ N (resL fz (eEntry x)) (eEntry x)) (h2 : cvsLe ρ N (resL fz (H 0)) (eME .own)) :
    ∀ j, j < (mEs L).length → cvsLe ρ N (resL fz ((fun i => if i < 0 + L.length then (fun i => if i < 0 then G i else (fun i => eEntry (L.getD i default)) (i - 0)) i else H (i - (0 + L.length))) j)) (eME ((mEs L).getD j default)) := by
  refine mEsLe (fun i hi => ?_) ?_
  · simp only
    rw [if_pos (by omega), if_neg (by omega)]
    exact h1 _
  · simp only
    rw [if_neg (by omega), show L.length - (0 + L.length) = 0 by omega]
    exact h2
end Go.Proofs.AY
