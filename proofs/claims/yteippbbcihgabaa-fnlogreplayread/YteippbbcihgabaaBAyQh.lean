/- A symbolic executor over the model, plain words, and contracts of the program's functions, part 19. Conditions: as each theorem tells. -/
import Derived.Test.YteippbbcihgabaaBAyQd
import Derived.Test.YteippbbcihgabaaBAyQg
set_option linter.unusedVariables false
set_option linter.unusedSimpArgs false
set_option linter.unusedSectionVars false
/- AY, part Qh: plain words: changes put in order. -/
namespace Go.Proofs.AY
open Go
/-- How far from the left a change is laid into a list: ahead of those at its end that it stands ahead of. -/
def insAt (e : Entry) (O : List Entry) : Nat → Nat
  | 0 => 0
  | k + 1 => if aheadP e (O.getD k default) then insAt e O k else k + 1
def insE (O : List Entry) (e : Entry) : List Entry := O.take (insAt e O O.length) ++ ([e] ++ O.drop (insAt e O O.length))
def orderF (L : List Entry) : List Entry := L.foldl insE []
theorem insAt_le (e : Entry) (O : List Entry) : ∀ k, insAt e O k ≤ k
  | 0 => Nat.le_refl _
  | k + 1 => by
    unfold insAt
    split
    · have := insAt_le e O k; omega
    · exact Nat.le_refl _
theorem insE_len (O : List Entry) (e : Entry) : (insE O e).length = O.length + 1 := by
  have := insAt_le e O O.length
  unfold insE
  simp only [List.length_append, List.length_take, List.length_drop, List.length_cons, List.length_nil]
  omega
theorem orderF_snoc {L : List Entry} {i : Nat} (h : i < L.length) : orderF (L.take (i + 1)) = insE (orderF (L.take i)) (L.getD i default) := by
  unfold orderF
  rw [take_snoc _ _ h, List.foldl_append]; rfl
theorem fold_ins_len : ∀ (L O : List Entry), (L.foldl insE O).length = O.length + L.length
  | [], O => rfl
  | e :: L, O => by
    rw [List.foldl_cons, fold_ins_len L, insE_len, List.length_cons]; omega
theorem orderF_len (L : List Entry) : (orderF L).length = L.length := by
  unfold orderF; rw [fold_ins_len]; simp
theorem insE_mem {O : List Entry} {e x : Entry} (h : x ∈ insE O e) : x = e ∨ x ∈ O := by
  unfold insE at h
  rcases List.mem_append.1 h with h | h
  · exact .inr (List.mem_of_mem_take h)
  · rcases List.mem_append.1 h with h | h
    · exact .inl (List.mem_singleton.1 h)
    · exact .inr (List.mem_of_mem_drop h)
theorem fold_ins_mem : ∀ {L O : List Entry} {x : Entry}, x ∈ L.foldl insE O → x ∈ O ∨ x ∈ L
  | [], O, x, h => .inl h
  | e :: L, O, x, h => by
    rcases fold_ins_mem (L := L) h with h | h
    · rcases insE_mem h with h | h
      · exact .inr (h ▸ List.mem_cons_self)
      · exact .inl h
    · exact .inr (List.mem_cons_of_mem _ h)
theorem orderF_mem {L : List Entry} {x : Entry} (h : x ∈ orderF L) : x ∈ L := by
  rcases fold_ins_mem (O := []) h with h | h
  · cases h
  · exact h
theorem insF {O : List Entry} {e : Entry} {k : Nat} {z g : Nat → List CV} (hk : k = insAt e O O.length) (hg : ∀ j, g j = eEntry e) (j : Nat) (hj : j < 0 + (k - 0) + 1 + (O.length - k)) :
    (if j < 0 + (k - 0) + 1 then (if j < 0 + (k - 0) then (if j < 0 then z j else eEntry (O.getD (0 + (j - 0)) default)) else g (j - (0 + (k - 0)))) else eEntry (O.getD (k + (j - (0 + (k - 0) + 1))) default)) = eEntry ((insE O e).getD j default) := by
  have hkl : k ≤ O.length := by rw [hk]; exact insAt_le _ _ _
  have ht : (O.take k).length = k := by rw [List.length_take]; omega
  unfold insE
  rw [← hk]
  by_cases h1 : j < k
  · rw [if_pos (by omega), if_pos (by omega), if_neg (Nat.not_lt_zero _), getD_app, if_pos (by omega), getD_take (by omega)]
    simp
  · by_cases h2 : j = k
    · rw [if_pos (by omega), if_neg (by omega), hg, getD_app, if_neg (by omega), ht, h2, Nat.sub_self]
      rfl
    · rw [if_neg (by omega), getD_app, if_neg (by omega), ht, getD_app, if_neg (by simp; omega), getD_drop]
      have : k + (j - (0 + (k - 0) + 1)) = k + (j - k - [e].length) := by simp only [List.length_cons, List.length_nil]; omega
      rw [this]
theorem imsE (x : Entry) : imsLe (eEntry x) (eEntry x) := ⟨rfl, rfl, rfl, ⟨rfl, rfl, fun _ _ => rfl⟩, ⟨rfl, rfl, fun _ _ => rfl⟩, rfl, trivial⟩
theorem ims_of {a : List CV} {x : Entry} (h : a = eEntry x) : imsLe a (eEntry x) := h ▸ imsE x
end Go.Proofs.AY
