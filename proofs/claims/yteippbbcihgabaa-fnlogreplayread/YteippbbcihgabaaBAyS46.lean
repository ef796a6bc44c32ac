/- A symbolic executor over the model, plain words, and contracts of the program's functions, part 25. Conditions: as each theorem tells. -/
import Derived.Test.YteippbbcihgabaaBAyS45
import Derived.Test.YteippbbcihgabaaAyB04
set_option linter.unusedVariables false
set_option linter.unusedSimpArgs false
set_option linter.unusedSectionVars false
namespace Go.Proofs.AYT
open Go Go.Proofs.AY Go.Proofs.Try
theorem l13Entry_ok (e : Entry) (h : smallE e) : CallOK prog 62 [.a (eEntry e)] [] (fun r os => os = [] ∧ r = .a (eEntry e)) := by
  refine fn_ (D := []) [] tab_ok hmo func62 rfl rfl rfl rfl ?_
  repeat' ((conv => whnf); first | (refine And.intro ?_ ?_) | (intro _) | (apply call0_ (g := 87); refine call_l11Puts [] (l := e.reads) (by omega) rfl ⟨⟨rfl, rfl, fun _ _ => rfl⟩, trivial⟩ trivial (by first | exact trivial | exact ⟨trivial, trivial⟩) ?_) | (apply call0_ (g := 87); refine call_l11Puts [] (l := e.puts) (by omega) rfl ⟨⟨rfl, rfl, fun _ _ => rfl⟩, trivial⟩ trivial (by first | exact trivial | exact ⟨trivial, trivial⟩) ?_))
  conv => whnf
  apply ret_ []
  apply retAt0 (r := .a (eEntry e))
  · exact ⟨rfl, rfl, rfl, ⟨rfl, rfl, fun _ _ => rfl⟩, ⟨rfl, rfl, fun _ _ => rfl⟩, rfl, trivial⟩
  · exact ⟨rfl, rfl⟩
theorem callx_l13Entry {al0 : Lim} {s0 : St} {as0 : List Operand} {d0 : Option Tmp} {K0 : St → Prop} {e : Entry} (ρ : List Sel) (cok_ : CallOK prog 62 [.a (eEntry e)] [] (fun r os => os = [] ∧ r = .a (eEntry e))) (cn_ : nodupB (keysOf ρ) = true) (ca_ : tvsLe ρ s0.loc.length (as0.map (ev s0)) [.a (eEntry e)]) (co_ : locLe ρ s0.loc.length s0.loc s0.fz ρ []) (cl_ : limP al0 s0.loc ρ True) (ck_ : placesK s0.loc ρ ([].map (AObj.up ρ s0.loc.length)) fun loc' => s0.afterK loc' d0 ((.a (eEntry e) : TV).up ρ s0.loc.length) K0) : CallAt prog al0 s0 62 as0 d0 K0 :=
  callB ρ cok_ cn_ ca_ co_ cl_ (by rintro r os ⟨rfl, rfl⟩; exact ck_ )
theorem call_l13Entry {al0 : Lim} {s0 : St} {as0 : List Operand} {d0 : Option Tmp} {K0 : St → Prop} {e : Entry} (ρ : List Sel) (h : smallE e) (cn_ : nodupB (keysOf ρ) = true) (ca_ : tvsLe ρ s0.loc.length (as0.map (ev s0)) [.a (eEntry e)]) (co_ : locLe ρ s0.loc.length s0.loc s0.fz ρ []) (cl_ : limP al0 s0.loc ρ True) (ck_ : placesK s0.loc ρ ([].map (AObj.up ρ s0.loc.length)) fun loc' => s0.afterK loc' d0 ((.a (eEntry e) : TV).up ρ s0.loc.length) K0) : CallAt prog al0 s0 62 as0 d0 K0 :=
  callx_l13Entry ρ (l13Entry_ok e h) cn_ ca_ co_ cl_ ck_
theorem entryCopy_ok (e : Entry) (h : smallE e) : CallOK prog 61 [.a (eEntry e)] [] (fun r os => os = [] ∧ r = .a (eEntry e)) := by
  refine fn_ (D := []) [] tab_ok hmo func61 rfl rfl rfl rfl ?_
  repeat' ((conv => whnf); first | (refine And.intro ?_ ?_) | (intro _) | (apply call0_ (g := 86); refine call_clonePut [] (l := e.reads) (by omega) rfl ⟨⟨rfl, rfl, fun _ _ => rfl⟩, trivial⟩ trivial (by first | exact trivial | exact ⟨trivial, trivial⟩) ?_) | (apply call0_ (g := 86); refine call_clonePut [] (l := e.puts) (by omega) rfl ⟨⟨rfl, rfl, fun _ _ => rfl⟩, trivial⟩ trivial (by first | exact trivial | exact ⟨trivial, trivial⟩) ?_))
  conv => whnf
  apply ret_ []
  apply retAt0 (r := .a (eEntry e))
  · exact ⟨rfl, rfl, rfl, ⟨rfl, rfl, fun _ _ => rfl⟩, ⟨rfl, rfl, fun _ _ => rfl⟩, rfl, trivial⟩
  · exact ⟨rfl, rfl⟩
theorem callx_entryCopy {al0 : Lim} {s0 : St} {as0 : List Operand} {d0 : Option Tmp} {K0 : St → Prop} {e : Entry} (ρ : List Sel) (cok_ : CallOK prog 61 [.a (eEntry e)] [] (fun r os => os = [] ∧ r = .a (eEntry e))) (cn_ : nodupB (keysOf ρ) = true) (ca_ : tvsLe ρ s0.loc.length (as0.map (ev s0)) [.a (eEntry e)]) (co_ : locLe ρ s0.loc.length s0.loc s0.fz ρ []) (cl_ : limP al0 s0.loc ρ True) (ck_ : placesK s0.loc ρ ([].map (AObj.up ρ s0.loc.length)) fun loc' => s0.afterK loc' d0 ((.a (eEntry e) : TV).up ρ s0.loc.length) K0) : CallAt prog al0 s0 61 as0 d0 K0 :=
  callB ρ cok_ cn_ ca_ co_ cl_ (by rintro r os ⟨rfl, rfl⟩; exact ck_ )
theorem call_entryCopy {al0 : Lim} {s0 : St} {as0 : List Operand} {d0 : Option Tmp} {K0 : St → Prop} {e : Entry} (ρ : List Sel) (h : smallE e) (cn_ : nodupB (keysOf ρ) = true) (ca_ : tvsLe ρ s0.loc.length (as0.map (ev s0)) [.a (eEntry e)]) (co_ : locLe ρ s0.loc.length s0.loc s0.fz ρ []) (cl_ : limP al0 s0.loc ρ True) (ck_ : placesK s0.loc ρ ([].map (AObj.up ρ s0.loc.length)) fun loc' => s0.afterK loc' d0 ((.a (eEntry e) : TV).up ρ s0.loc.length) K0) : CallAt prog al0 s0 61 as0 d0 K0 :=
  callx_entryCopy ρ (entryCopy_ok e h) cn_ ca_ co_ cl_ ck_
theorem iLogTask_ok (L : List Entry) (t : Int) (hl : L.length ≤ 1000000000) (hs : ∀ x ∈ L, smallE x) : CallOK prog 31 [lst 6 eEntry L, int t] [] (fun r os => os = [] ∧ r = lst 6 eEntry (taskL L t)) := by
  refine fn_ (D := []) [] tab_ok hmo func31 rfl rfl rfl rfl ?_
  repeat' ((conv => whnf); first | (refine And.intro ?_ ?_) | (intro _))
  apply loop_ (fun ((i, M) : (Nat) × (List Entry)) => i ≤ L.length ∧ M = taskL (L.take i) t) (fun ((i, M) : (Nat) × (List Entry)) => (⟨25, [(1, int t), (5, .c (.s ⟨0, 0⟩ M.length)), (8, lst 6 eEntry L), (9, int L.length), (10, int i)], [rl 40 6 eEntry M], []⟩ : St)) (fun ((i, M) : (Nat) × (List Entry)) => L.length - i)
  · apply to_ []; apply toAt_ [.nil] (0, []); rotate_left 1
    exact ⟨rfl, rfl, rfl, rfl, ⟨rfl, ⟨trivial, rfl⟩, ⟨rfl, rfl, fun _ _ => rfl⟩, rfl, rfl, trivial⟩, rfl, trivial⟩
    exact ⟨Nat.zero_le _, rfl⟩
  · rintro ⟨i, M⟩ ⟨h1, h2⟩
    have hM : M.length ≤ i := by rw [h2]; have := taskL_len (L.take i) t; rw [List.length_take] at this; omega
    have hsi : i < L.length → smallE (L.getD i default) := fun h => hs _ (getD_mem default h)
    have hsn : i < L.length → taskL (L.take (i + 1)) t = if (L.getD i default).task = t then M ++ [L.getD i default] else M := fun h => by rw [taskL_snoc h, ← h2]
    repeat' ((conv => whnf); first | (refine And.intro ?_ ?_) | (intro _) | (apply call0_ (g := 61); refine call_entryCopy [] (e := L.getD i default) (hsi (by omega)) rfl ⟨⟨rfl, rfl, rfl, ⟨rfl, rfl, fun _ _ => rfl⟩, ⟨rfl, rfl, fun _ _ => rfl⟩, rfl, trivial⟩, trivial⟩ trivial (by first | exact trivial | exact ⟨trivial, trivial⟩) ?_))
    all_goals (try simp only [Int.toNat_natCast] at *)
    all_goals first | omega | (simp only [ti40]; omega) | skip
    all_goals (conv => whnf)
    · rename_i ht
      (apply to_ []; apply toAt_ [.all 3] (i + 1, M ++ [L.getD i default]); rotate_left 1; exact ⟨rfl, rfl, rfl, rfl, ⟨rfl, congrArg (CV.s _) (by rw [List.length_append]; rfl), ⟨rfl, rfl, fun _ _ => rfl⟩, rfl, rfl, trivial⟩, ⟨trivial, rfl, rfl, (by rw [List.length_append]; rfl), snocLeL eEntry (fun _ _ => ⟨rfl, rfl, rfl, ⟨rfl, rfl, fun _ _ => rfl⟩, ⟨rfl, rfl, fun _ _ => rfl⟩, rfl, trivial⟩) (fun _ => ⟨rfl, rfl, rfl, ⟨rfl, rfl, fun _ _ => rfl⟩, ⟨rfl, rfl, fun _ _ => rfl⟩, rfl, trivial⟩)⟩, trivial⟩)
      exact ⟨⟨by omega, by rw [hsn (by omega), if_pos ht]⟩, by (try simp only); omega⟩
    · rename_i ht
      (apply to_ []; apply toAt_ [.all 0] (i + 1, M); rotate_left 1; exact ⟨rfl, rfl, rfl, rfl, ⟨rfl, rfl, ⟨rfl, rfl, fun _ _ => rfl⟩, rfl, rfl, trivial⟩, ⟨trivial, rfl, rfl, rfl, (fun _ _ => ⟨rfl, rfl, rfl, ⟨rfl, rfl, fun _ _ => rfl⟩, ⟨rfl, rfl, fun _ _ => rfl⟩, rfl, trivial⟩)⟩, trivial⟩)
      exact ⟨⟨by omega, by rw [hsn (by omega), if_neg ht]⟩, by (try simp only); omega⟩
    · have e : M = taskL L t := by rw [h2, List.take_of_length_le (by omega)]
      rw [← e]
      apply ret_ [0]
      refine And.intro (fun _ _ => rfl) ?_
      apply retAt0 (r := lst 6 eEntry M)
      · exact ⟨rfl, rfl, fun _ _ => rfl⟩
      · exact ⟨rfl, rfl⟩
theorem callx_iLogTask {al0 : Lim} {s0 : St} {as0 : List Operand} {d0 : Option Tmp} {K0 : St → Prop} {L : List Entry} {t : Int} (ρ : List Sel) (cok_ : CallOK prog 31 [lst 6 eEntry L, int t] [] (fun r os => os = [] ∧ r = lst 6 eEntry (taskL L t))) (cn_ : nodupB (keysOf ρ) = true) (ca_ : tvsLe ρ s0.loc.length (as0.map (ev s0)) [lst 6 eEntry L, int t]) (co_ : locLe ρ s0.loc.length s0.loc s0.fz ρ []) (cl_ : limP al0 s0.loc ρ True) (ck_ : placesK s0.loc ρ ([].map (AObj.up ρ s0.loc.length)) fun loc' => s0.afterK loc' d0 ((lst 6 eEntry (taskL L t) : TV).up ρ s0.loc.length) K0) : CallAt prog al0 s0 31 as0 d0 K0 :=
  callB ρ cok_ cn_ ca_ co_ cl_ (by rintro r os ⟨rfl, rfl⟩; exact ck_ )
theorem call_iLogTask {al0 : Lim} {s0 : St} {as0 : List Operand} {d0 : Option Tmp} {K0 : St → Prop} {L : List Entry} {t : Int} (ρ : List Sel) (hl : L.length ≤ 1000000000) (hs : ∀ x ∈ L, smallE x) (cn_ : nodupB (keysOf ρ) = true) (ca_ : tvsLe ρ s0.loc.length (as0.map (ev s0)) [lst 6 eEntry L, int t]) (co_ : locLe ρ s0.loc.length s0.loc s0.fz ρ []) (cl_ : limP al0 s0.loc ρ True) (ck_ : placesK s0.loc ρ ([].map (AObj.up ρ s0.loc.length)) fun loc' => s0.afterK loc' d0 ((lst 6 eEntry (taskL L t) : TV).up ρ s0.loc.length) K0) : CallAt prog al0 s0 31 as0 d0 K0 :=
  callx_iLogTask ρ (iLogTask_ok L t hl hs) cn_ ca_ co_ cl_ ck_
theorem sLogTask_ok (L : List Entry) (t : Int) (hl : L.length ≤ 1000000000) (hs : ∀ x ∈ L, smallE x) : CallOK prog 33 [lst 6 eEntry L, int t] [] (fun r os => os = [] ∧ r = lst 6 eEntry (taskL L t)) := by
  refine fn_ (D := []) [] tab_ok hmo func33 rfl rfl rfl rfl ?_
  repeat' ((conv => whnf); first | (refine And.intro ?_ ?_) | (intro _))
  apply loop_ (fun ((i, M) : (Nat) × (List Entry)) => i ≤ L.length ∧ M = taskL (L.take i) t) (fun ((i, M) : (Nat) × (List Entry)) => (⟨30, [(0, lst 6 eEntry L), (1, int t), (5, .c (.s ⟨0, 0⟩ M.length)), (6, int i)], [rl 40 6 eEntry M], []⟩ : St)) (fun ((i, M) : (Nat) × (List Entry)) => L.length - i)
  · (apply to_ []; apply toAt_ [.all 0] (0, []); rotate_left 1; exact ⟨rfl, rfl, rfl, rfl, ⟨⟨rfl, rfl, fun _ _ => rfl⟩, rfl, rfl, rfl, trivial⟩, ⟨trivial, rfl, rfl, rfl, fun j hj => absurd hj (Nat.not_lt_zero _)⟩, trivial⟩)
    exact ⟨Nat.zero_le _, rfl⟩
  · rintro ⟨i, M⟩ ⟨h1, h2⟩
    have hM : M.length ≤ i := by rw [h2]; have := taskL_len (L.take i) t; rw [List.length_take] at this; omega
    have hsi : i < L.length → smallE (L.getD i default) := fun h => hs _ (getD_mem default h)
    have hsn : i < L.length → taskL (L.take (i + 1)) t = if (L.getD i default).task = t then M ++ [L.getD i default] else M := fun h => by rw [taskL_snoc h, ← h2]
    repeat' ((conv => whnf); first | (refine And.intro ?_ ?_) | (intro _) | (apply call0_ (g := 62); refine call_l13Entry [] (e := L.getD i default) (hsi (by omega)) rfl ⟨⟨rfl, rfl, rfl, ⟨rfl, rfl, fun _ _ => rfl⟩, ⟨rfl, rfl, fun _ _ => rfl⟩, rfl, trivial⟩, trivial⟩ trivial (by first | exact trivial | exact ⟨trivial, trivial⟩) ?_))
    all_goals (try simp only [Int.toNat_natCast] at *)
    all_goals first | omega | (simp only [ti40]; omega) | skip
    all_goals (conv => whnf)
    · rename_i ht
      (apply to_ []; apply toAt_ [.all 2] (i + 1, M ++ [L.getD i default]); rotate_left 1; exact ⟨rfl, rfl, rfl, rfl, ⟨⟨rfl, rfl, fun _ _ => rfl⟩, rfl, congrArg (CV.s _) (by rw [List.length_append]; rfl), rfl, trivial⟩, ⟨trivial, rfl, rfl, (by rw [List.length_append]; rfl), snocLeL eEntry (fun _ _ => ⟨rfl, rfl, rfl, ⟨rfl, rfl, fun _ _ => rfl⟩, ⟨rfl, rfl, fun _ _ => rfl⟩, rfl, trivial⟩) (fun _ => ⟨rfl, rfl, rfl, ⟨rfl, rfl, fun _ _ => rfl⟩, ⟨rfl, rfl, fun _ _ => rfl⟩, rfl, trivial⟩)⟩, trivial⟩)
      exact ⟨⟨by omega, by rw [hsn (by omega), if_pos ht]⟩, by (try simp only); omega⟩
    · rename_i ht
      (apply to_ []; apply toAt_ [.all 0] (i + 1, M); rotate_left 1; exact ⟨rfl, rfl, rfl, rfl, ⟨⟨rfl, rfl, fun _ _ => rfl⟩, rfl, rfl, rfl, trivial⟩, ⟨trivial, rfl, rfl, rfl, (fun _ _ => ⟨rfl, rfl, rfl, ⟨rfl, rfl, fun _ _ => rfl⟩, ⟨rfl, rfl, fun _ _ => rfl⟩, rfl, trivial⟩)⟩, trivial⟩)
      exact ⟨⟨by omega, by rw [hsn (by omega), if_neg ht]⟩, by (try simp only); omega⟩
    · have e : M = taskL L t := by rw [h2, List.take_of_length_le (by omega)]
      rw [← e]
      apply ret_ [0]
      refine And.intro (fun _ _ => rfl) ?_
      apply retAt0 (r := lst 6 eEntry M)
      · exact ⟨rfl, rfl, fun _ _ => rfl⟩
      · exact ⟨rfl, rfl⟩
theorem callx_sLogTask {al0 : Lim} {s0 : St} {as0 : List Operand} {d0 : Option Tmp} {K0 : St → Prop} {L : List Entry} {t : Int} (ρ : List Sel) (cok_ : CallOK prog 33 [lst 6 eEntry L, int t] [] (fun r os => os = [] ∧ r = lst 6 eEntry (taskL L t))) (cn_ : nodupB (keysOf ρ) = true) (ca_ : tvsLe ρ s0.loc.length (as0.map (ev s0)) [lst 6 eEntry L, int t]) (co_ : locLe ρ s0.loc.length s0.loc s0.fz ρ []) (cl_ : limP al0 s0.loc ρ True) (ck_ : placesK s0.loc ρ ([].map (AObj.up ρ s0.loc.length)) fun loc' => s0.afterK loc' d0 ((lst 6 eEntry (taskL L t) : TV).up ρ s0.loc.length) K0) : CallAt prog al0 s0 33 as0 d0 K0 :=
  callB ρ cok_ cn_ ca_ co_ cl_ (by rintro r os ⟨rfl, rfl⟩; exact ck_ )
theorem call_sLogTask {al0 : Lim} {s0 : St} {as0 : List Operand} {d0 : Option Tmp} {K0 : St → Prop} {L : List Entry} {t : Int} (ρ : List Sel) (hl : L.length ≤ 1000000000) (hs : ∀ x ∈ L, smallE x) (cn_ : nodupB (keysOf ρ) = true) (ca_ : tvsLe ρ s0.loc.length (as0.map (ev s0)) [lst 6 eEntry L, int t]) (co_ : locLe ρ s0.loc.length s0.loc s0.fz ρ []) (cl_ : limP al0 s0.loc ρ True) (ck_ : placesK s0.loc ρ ([].map (AObj.up ρ s0.loc.length)) fun loc' => s0.afterK loc' d0 ((lst 6 eEntry (taskL L t) : TV).up ρ s0.loc.length) K0) : CallAt prog al0 s0 33 as0 d0 K0 :=
  callx_sLogTask ρ (sLogTask_ok L t hl hs) cn_ ca_ co_ cl_ ck_
end Go.Proofs.AYT
