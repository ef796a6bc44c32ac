/- A symbolic executor over the model, plain words, and contracts of the program's functions, part 17. Conditions: as each theorem tells. -/
import Derived.Test.YteippbbcihgabaaAyB03
set_option linter.unusedVariables false
set_option linter.unusedSimpArgs false
set_option linter.unusedSectionVars false
/- AY, part Qg: plain words: changes done one behind the other. -/
namespace Go.Proofs.AY
open Go
abbrev readP (cs : List Int) (x : Put) : Prop := 0 ≤ x.cell ∧ x.cell ≤ (cs.length : Int) - 1 ∧ cs.getD x.cell.toNat default = x.num
def readI (cs : List Int) (l : List Put) (i : Nat) : Bool := decide (readP cs (l.getD i default))
def readsB (cs : List Int) (l : List Put) : Bool := allTo (readI cs l) l.length
def putI (cs : List Int) (x : Put) : List Int := if 0 ≤ x.cell ∧ x.cell ≤ (cs.length : Int) - 1 then cs.set x.cell.toNat x.num else cs
def putsF (cs : List Int) (l : List Put) : List Int := l.foldl putI cs
theorem putI_len {cs : List Int} {x : Put} : (putI cs x).length = cs.length := by unfold putI; split <;> simp
theorem putsF_len : ∀ {l : List Put} {cs : List Int}, (putsF cs l).length = cs.length
  | [], _ => rfl
  | x :: l, cs => by
    show (putsF (putI cs x) l).length = _
    rw [putsF_len, putI_len]
theorem putsF_snoc {cs : List Int} {l : List Put} {i : Nat} (h : i < l.length) : putsF cs (l.take (i + 1)) = putI (putsF cs (l.take i)) (l.getD i default) := by
  unfold putsF
  rw [take_snoc _ _ h, List.foldl_append]; rfl
def replayS (o : Option (List Int)) (e : Entry) : Option (List Int) := match o with
  | none => none
  | some cs => if readsB cs e.reads then some (putsF cs e.puts) else none
def replayF (cs : List Int) (L : List Entry) : Option (List Int) := L.foldl replayS (some cs)
theorem replay_none : ∀ {L : List Entry}, L.foldl replayS none = none
  | [] => rfl
  | _ :: L => replay_none (L := L)
theorem replayF_snoc {cs : List Int} {L : List Entry} {i : Nat} (h : i < L.length) : replayF cs (L.take (i + 1)) = replayS (replayF cs (L.take i)) (L.getD i default) := by
  unfold replayF
  rw [take_snoc _ _ h, List.foldl_append]; rfl
theorem replayF_app {cs : List Int} {L M : List Entry} : replayF cs (L ++ M) = M.foldl replayS (replayF cs L) := by
  unfold replayF
  rw [List.foldl_append]
theorem replayF_stop {cs : List Int} {L : List Entry} {i : Nat} (h : i ≤ L.length) (hn : replayF cs (L.take i) = none) : replayF cs L = none := by
  have e : L = L.take i ++ L.drop i := (List.take_append_drop i L).symm
  rw [e, replayF_app, hn, replay_none]
theorem replayF_len : ∀ {L : List Entry} {cs ds : List Int}, replayF cs L = some ds → ds.length = cs.length
  | [], cs, ds, h => by cases h; rfl
  | e :: L, cs, ds, h => by
    have h : L.foldl replayS (replayS (some cs) e) = some ds := h
    have e1 : replayS (some cs) e = if readsB cs e.reads then some (putsF cs e.puts) else none := rfl
    rw [e1] at h
    split at h
    · have := replayF_len (L := L) (cs := putsF cs e.puts) (ds := ds) h
      rw [this, putsF_len]
    · rw [replay_none] at h; cases h
theorem setLeL {α : Type} [Inhabited α] {ρ : List Sel} {N : Nat} {fz : List (Nat × CV)} (enc : α → List CV) {F : Nat → List CV} {l : List α} {x : α} {i : Nat} {g : List CV} (h1 : ∀ j, j < l.length → j ≠ i → cvsLe ρ N (resL fz (F j)) (enc (l.getD j default))) (h2 : cvsLe ρ N (resL fz g) (enc x)) :
    ∀ j, j < (l.set i x).length → cvsLe ρ N (resL fz (if j = i then g else F j)) (enc ((l.set i x).getD j default)) := fun j hj =>
  setLeJ (fun _ x => enc x) rfl h1 h2 j (by simpa using hj)
theorem list_ext {α : Type} [Inhabited α] {a b : List α} (h : a.length = b.length) (h2 : ∀ j, j < a.length → a.getD j default = b.getD j default) : a = b := by
  apply List.ext_getElem h
  intro i hi hj
  have := h2 i hi
  simpa [List.getD_eq_getElem?_getD, List.getElem?_eq_getElem hi, List.getElem?_eq_getElem hj] using this
theorem putExt {a b : Put} (h1 : a.cell = b.cell) (h2 : a.num = b.num) : a = b := by cases a; cases b; simp_all
/-- The changes of a task. -/
def taskL (L : List Entry) (t : Int) : List Entry := L.filter fun e => decide (e.task = t)
theorem taskL_snoc {L : List Entry} {t : Int} {i : Nat} (h : i < L.length) : taskL (L.take (i + 1)) t = if (L.getD i default).task = t then taskL (L.take i) t ++ [L.getD i default] else taskL (L.take i) t := by
  unfold taskL
  rw [take_snoc _ _ h, List.filter_append]
  by_cases e : (L.getD i default).task = t
  · rw [if_pos e, List.filter_cons_of_pos (by simpa using e)]; rfl
  · rw [if_neg e, List.filter_cons_of_neg (by simpa using e)]; simp
theorem taskL_len (L : List Entry) (t : Int) : (taskL L t).length ≤ L.length := List.length_filter_le _ _
theorem snocLeL {α : Type} [Inhabited α] {ρ : List Sel} {N : Nat} {fz : List (Nat × CV)} (enc : α → List CV) {F g : Nat → List CV} {l : List α} {x : α} (h1 : ∀ j, j < l.length → cvsLe ρ N (resL fz (F j)) (enc (l.getD j default))) (h2 : ∀ j, cvsLe ρ N (resL fz (g j)) (enc x)) :
    ∀ j, j < (l ++ [x]).length → cvsLe ρ N (resL fz (if j < l.length then F j else g (j - l.length))) (enc ((l ++ [x]).getD j default)) := fun j hj =>
  snocLe rfl h1 h2 j (by rw [List.length_append] at hj; exact hj)
end Go.Proofs.AY
