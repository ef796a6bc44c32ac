/- Plain words, and contracts of the program's functions. Conditions: as each theorem tells. -/
import Derived.Test.YteippbbcihgabaaBAyQj
import Derived.Test.YteippbbcihgabaaBAyQi
set_option linter.unusedVariables false
set_option linter.unusedSimpArgs false
set_option linter.unusedSectionVars false
/- AY, part Qk: plain words: a task's entries of a drawn log. -/
namespace Go.Proofs.AY
open Go
/-- What is drawn for LogTask. -/
structure taskG (L : List Entry) : Prop where
  hl : L.length ≤ 2000000
  hs : ∀ x ∈ L, smallE x
  ht : logT L
theorem logP.tg {P : DProg} {L : List Entry} (h : logP P L) : taskG L := ⟨h.good.1, h.small, h.t⟩
theorem taskL_all {L : List Entry} {t : Int} {i : Nat} (hi : i < (taskL L t).length) : ((taskL L t).getD i default).task = t := by
  have := getD_mem default hi
  unfold taskL at this
  rw [List.mem_filter] at this
  simpa [taskL] using this.2
theorem taskL_asc {L : List Entry} {t : Int} (h : logT L) {i : Nat} (hi : i < (taskL L t).length) (h0 : 0 < i) : ((taskL L t).getD (i - 1) default).act < ((taskL L t).getD i default).act := by
  have hp : (taskL L t).Pairwise fun x y => x.task = y.task → x.act < y.act := h.2.filter _
  have := List.pairwise_iff_getElem.1 hp (i - 1) i (by omega) hi (by omega)
  have e1 : (taskL L t)[i - 1]'(by omega) = (taskL L t).getD (i - 1) default := by rw [List.getD_eq_getElem?_getD, List.getElem?_eq_getElem (by omega)]; rfl
  have e2 : (taskL L t)[i]'hi = (taskL L t).getD i default := by rw [List.getD_eq_getElem?_getD, List.getElem?_eq_getElem hi]; rfl
  rw [e1, e2] at this
  exact this ((taskL_all (by omega)).trans (taskL_all hi).symm)
/-- How many entries the tasks below k have. -/
def tasksN (L : List Entry) : Nat → Nat
  | 0 => 0
  | k + 1 => tasksN L k + (taskL L (k : Nat)).length
theorem filter_split (L : List Entry) (k : Int) : (L.filter fun x => decide (x.task < k + 1)).length = (L.filter fun x => decide (x.task < k)).length + (L.filter fun x => decide (x.task = k)).length := by
  induction L with
  | nil => rfl
  | cons x L ih =>
    by_cases h1 : x.task < k
    · rw [List.filter_cons_of_pos (by simp; omega), List.filter_cons_of_pos (by simpa using h1), List.filter_cons_of_neg (by simp; omega), List.length_cons, List.length_cons, ih]; omega
    · by_cases h2 : x.task = k
      · rw [List.filter_cons_of_pos (by simp; omega), List.filter_cons_of_neg (by simpa using h1), List.filter_cons_of_pos (by simpa using h2), List.length_cons, List.length_cons, ih]; omega
      · rw [List.filter_cons_of_neg (by simp; omega), List.filter_cons_of_neg (by simpa using h1), List.filter_cons_of_neg (by simpa using h2), ih]
theorem tasksN_eq {L : List Entry} (h : ∀ x ∈ L, 0 ≤ x.task) : ∀ k : Nat, tasksN L k = (L.filter fun x => decide (x.task < (k : Int))).length
  | 0 => by
    have : (L.filter fun x => decide (x.task < ((0 : Nat) : Int))) = [] := by
      rw [List.filter_eq_nil_iff]
      intro x hx; have := h x hx; simp; omega
    rw [this]; rfl
  | k + 1 => by
    have e := filter_split L (k : Int)
    rw [tasksN, tasksN_eq h k, show (((k + 1 : Nat)) : Int) = (k : Int) + 1 by omega, e]; rfl
theorem tasksN_le {L : List Entry} (h : L.length ≤ 2000000) : ∀ k, tasksN L k ≤ k * 2000000
  | 0 => Nat.le_refl _
  | k + 1 => by
    have h1 := tasksN_le h k
    have h2 := taskL_len L (k : Nat)
    rw [tasksN]; omega
theorem tasksN_7 {L : List Entry} (h : logT L) : tasksN L 7 = L.length := by
  rw [tasksN_eq (fun x hx => (h.1 x hx).1)]
  rw [List.filter_eq_self.2]
  intro x hx; have := h.1 x hx; simp; omega
end Go.Proofs.AY
