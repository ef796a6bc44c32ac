/- Plain words, and contracts of the program's functions. Conditions: as each theorem tells. -/
import Derived.Test.YteippbbcihgabaaBAyQi
set_option linter.unusedVariables false
set_option linter.unusedSimpArgs false
set_option linter.unusedSectionVars false
/- AY, part Ql: plain words: a drawn log, and behind it an entry with rows of its own. -/
namespace Go.Proofs.AY
open Go
/-- An entry, or one whose reads and puts are own rows. -/
inductive ME where
  | e (x : Entry)
  | own
instance : Inhabited ME := ⟨.own⟩
def eME : ME → List CV
  | .e x => eEntry x
  | .own => [iv 0, iv 0, iv 0, .s ⟨0, 0⟩ 1, .s ⟨1, 0⟩ 1, iv 0]
theorem eMEc {ρ : List Sel} {N : Nat} {fz : List (Nat × CV)} (h1 : ∀ x, cvsLe ρ N (resL fz (eEntry x)) (eEntry x)) (h2 : cvsLe ρ N (resL fz [iv 0, iv 0, iv 0, .s ⟨0, 0⟩ 1, .s ⟨1, 0⟩ 1, iv 0]) [iv 0, iv 0, iv 0, .s ⟨0, 0⟩ 1, .s ⟨1, 0⟩ 1, iv 0]) (m : ME) : cvsLe ρ N (resL fz (eME m)) (eME m) := by
  cases m
  · exact h1 _
  · exact h2
def mEs (L : List Entry) : List ME := L.map ME.e ++ [.own]
abbrev lastE (x y : Int) : Entry := ⟨0, 0, 0, [⟨0, x⟩], [⟨0, y⟩], 0⟩
theorem mEs_len {L : List Entry} : (mEs L).length = L.length + 1 := by simp [mEs]
theorem mEs_at {L : List Entry} {i : Nat} (h : i < L.length) : (mEs L).getD i default = .e (L.getD i default) := by
  unfold mEs
  rw [getD_app, if_pos (by simpa using h)]
  exact getD_map _ _ h
theorem mEs_last {L : List Entry} {i : Nat} (h : i = L.length) : (mEs L).getD i default = .own := by
  subst h
  unfold mEs
  rw [getD_app, if_neg (by simp)]
  simp
theorem app_at {L : List Entry} {z : Entry} {i : Nat} (h : i < L.length) : (L ++ [z]).getD i default = L.getD i default := by
  rw [getD_app, if_pos h]
theorem app_last {L : List Entry} {z : Entry} {i : Nat} (h : i = L.length) : (L ++ [z]).getD i default = z := by
  subst h
  rw [getD_app, if_neg (by simp)]
  simp
end Go.Proofs.AY
