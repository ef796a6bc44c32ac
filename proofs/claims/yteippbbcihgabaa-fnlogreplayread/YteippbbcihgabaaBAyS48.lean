/- A symbolic executor over the model, plain words, and contracts of the program's functions, part 27. Conditions: as each theorem tells. -/
import Derived.Test.YteippbbcihgabaaBAyS47
import Derived.Test.YteippbbcihgabaaAyB16
import Derived.Test.YteippbbcihgabaaBAyQi
set_option linter.unusedVariables false
set_option linter.unusedSimpArgs false
set_option linter.unusedSectionVars false
namespace Go.Proofs.AYT
open Go Go.Proofs.AY Go.Proofs.Try
theorem iLogReplayR_ok (cs : List Int) (L : List Entry) (o : Option (List Int)) (hc : cs.length ≤ 1099511627776) (h : replayF cs L = o) : CallOK prog 36 [lst 1 eI cs, lst 6 eEntry L] [] (fun r os => os = [] ∧ r = .t [.c (dl 1 eI (o.getD [])), .c (.v (.bool o.isSome))]) := by
  subst h; exact iLogReplay_ok cs L hc
theorem callx_iLogReplayR {al0 : Lim} {s0 : St} {as0 : List Operand} {d0 : Option Tmp} {K0 : St → Prop} {cs : List Int} {L : List Entry} {o : Option (List Int)} (ρ : List Sel) (cok_ : CallOK prog 36 [lst 1 eI cs, lst 6 eEntry L] [] (fun r os => os = [] ∧ r = .t [.c (dl 1 eI (o.getD [])), .c (.v (.bool o.isSome))])) (cn_ : nodupB (keysOf ρ) = true) (ca_ : tvsLe ρ s0.loc.length (as0.map (ev s0)) [lst 1 eI cs, lst 6 eEntry L]) (co_ : locLe ρ s0.loc.length s0.loc s0.fz ρ []) (cl_ : limP al0 s0.loc ρ True) (ck_ : placesK s0.loc ρ ([].map (AObj.up ρ s0.loc.length)) fun loc' => s0.afterK loc' d0 ((.t [.c (dl 1 eI (o.getD [])), .c (.v (.bool o.isSome))] : TV).up ρ s0.loc.length) K0) : CallAt prog al0 s0 36 as0 d0 K0 :=
  callB ρ cok_ cn_ ca_ co_ cl_ (by rintro r os ⟨rfl, rfl⟩; exact ck_ )
theorem call_iLogReplayR {al0 : Lim} {s0 : St} {as0 : List Operand} {d0 : Option Tmp} {K0 : St → Prop} {cs : List Int} {L : List Entry} {o : Option (List Int)} (ρ : List Sel) (hc : cs.length ≤ 1099511627776) (h : replayF cs L = o) (cn_ : nodupB (keysOf ρ) = true) (ca_ : tvsLe ρ s0.loc.length (as0.map (ev s0)) [lst 1 eI cs, lst 6 eEntry L]) (co_ : locLe ρ s0.loc.length s0.loc s0.fz ρ []) (cl_ : limP al0 s0.loc ρ True) (ck_ : placesK s0.loc ρ ([].map (AObj.up ρ s0.loc.length)) fun loc' => s0.afterK loc' d0 ((.t [.c (dl 1 eI (o.getD [])), .c (.v (.bool o.isSome))] : TV).up ρ s0.loc.length) K0) : CallAt prog al0 s0 36 as0 d0 K0 :=
  callx_iLogReplayR ρ (iLogReplayR_ok cs L o hc h) cn_ ca_ co_ cl_ ck_
theorem sLogReplayR_ok (cs : List Int) (L : List Entry) (o : Option (List Int)) (hc : cs.length ≤ 1099511627776) (h : replayF cs L = o) : CallOK prog 35 [lst 1 eI cs, lst 6 eEntry L] [] (fun r os => os = [] ∧ r = .t [.c (dl 1 eI (o.getD [])), .c (.v (.bool o.isSome))]) := by
  subst h; exact sLogReplay_ok cs L hc
theorem callx_sLogReplayR {al0 : Lim} {s0 : St} {as0 : List Operand} {d0 : Option Tmp} {K0 : St → Prop} {cs : List Int} {L : List Entry} {o : Option (List Int)} (ρ : List Sel) (cok_ : CallOK prog 35 [lst 1 eI cs, lst 6 eEntry L] [] (fun r os => os = [] ∧ r = .t [.c (dl 1 eI (o.getD [])), .c (.v (.bool o.isSome))])) (cn_ : nodupB (keysOf ρ) = true) (ca_ : tvsLe ρ s0.loc.length (as0.map (ev s0)) [lst 1 eI cs, lst 6 eEntry L]) (co_ : locLe ρ s0.loc.length s0.loc s0.fz ρ []) (cl_ : limP al0 s0.loc ρ True) (ck_ : placesK s0.loc ρ ([].map (AObj.up ρ s0.loc.length)) fun loc' => s0.afterK loc' d0 ((.t [.c (dl 1 eI (o.getD [])), .c (.v (.bool o.isSome))] : TV).up ρ s0.loc.length) K0) : CallAt prog al0 s0 35 as0 d0 K0 :=
  callB ρ cok_ cn_ ca_ co_ cl_ (by rintro r os ⟨rfl, rfl⟩; exact ck_ )
theorem call_sLogReplayR {al0 : Lim} {s0 : St} {as0 : List Operand} {d0 : Option Tmp} {K0 : St → Prop} {cs : List Int} {L : List Entry} {o : Option (List Int)} (ρ : List Sel) (hc : cs.length ≤ 1099511627776) (h : replayF cs L = o) (cn_ : nodupB (keysOf ρ) = true) (ca_ : tvsLe ρ s0.loc.length (as0.map (ev s0)) [lst 1 eI cs, lst 6 eEntry L]) (co_ : locLe ρ s0.loc.length s0.loc s0.fz ρ []) (cl_ : limP al0 s0.loc ρ True) (ck_ : placesK s0.loc ρ ([].map (AObj.up ρ s0.loc.length)) fun loc' => s0.afterK loc' d0 ((.t [.c (dl 1 eI (o.getD [])), .c (.v (.bool o.isSome))] : TV).up ρ s0.loc.length) K0) : CallAt prog al0 s0 35 as0 d0 K0 :=
  callx_sLogReplayR ρ (sLogReplayR_ok cs L o hc h) cn_ ca_ co_ cl_ ck_
def plans34 : Plans := [(5, ⟨.take 0 false (.take 2 false (.take 1 true (.alt 3 (.take 4 false (.take 5 false .done)) .done))), [], []⟩)]
theorem plans34_ok : plansOk plans34 (bodyOf f34) = true := by kernel_rfl
theorem DrawLogReplay_ok (n : Nat) (b : Nat → Int) (hb : ∀ i, 0 ≤ b i ∧ b i < 256) : CallOK prog 34 [bytes n b] [] (fun r os => ∃ (cs : List Int) (L : List Entry), os = [] ∧ r = .t [.c (dl 1 eI cs), .c (dl 6 eEntry L)] ∧ (cellsL cs L)) := by
  refine fn_ [] tab_ok hmo func34 rfl rfl plans34_ok rfl ?_
  repeat' ((conv => whnf); first | (refine And.intro ?_ ?_) | (intro _) | (apply call0_ (g := 49); refine call_l6Open [] hb rfl ⟨⟨rfl, rfl, fun _ _ => rfl⟩, trivial⟩ trivial (by first | exact trivial | exact ⟨trivial, trivial⟩) ?_) | (apply call0_ (g := 60); refine call_l71Log [.all 0] (by omega) rfl ⟨rfl, trivial⟩ ⟨⟨trivial, rfl, ⟨rfl, rfl, fun _ _ => rfl⟩, rfl, trivial⟩, trivial⟩ (by first | exact trivial | exact ⟨⟨rfl, Nat.le_refl _, trivial⟩, trivial⟩ | exact ⟨⟨rfl, trivial, trivial⟩, trivial⟩) ?_) | (apply call0_ (g := 52); refine call_pick [.all 0] (by omega) rfl ⟨rfl, rfl, trivial⟩ ⟨⟨trivial, rfl, ⟨rfl, rfl, fun _ _ => rfl⟩, rfl, trivial⟩, trivial⟩ (by first | exact trivial | exact ⟨⟨rfl, Nat.le_refl _, trivial⟩, trivial⟩ | exact ⟨⟨rfl, trivial, trivial⟩, trivial⟩) ?_))
  all_goals first | omega | skip
  · rename_i R q' P L hq hL v h0 h1 hv
    conv => whnf
    apply ret_ []
    apply retAt0 (r := .t [.c (dl 1 eI P.cells), .c (dl 6 eEntry L)])
    · exact ⟨⟨rfl, rfl, fun _ _ => rfl⟩, ⟨rfl, rfl, fun _ _ => rfl⟩, trivial⟩
    · exact ⟨P.cells, L, rfl, rfl, hL.cl⟩
  · rename_i R q' P L hq hL v h0 h1 hv
    conv => whnf
    repeat' ((conv => whnf); first | (refine And.intro ?_ ?_) | (intro _) | (apply call0_ (g := 39); refine call_sLogOrder [] (Nat.le_trans hL.good.1 (by decide)) hL.small rfl ⟨⟨rfl, rfl, fun _ _ => rfl⟩, trivial⟩ trivial (by first | exact trivial | exact ⟨trivial, trivial⟩) ?_))
    all_goals first | omega | skip
    conv => whnf
    apply ret_ []
    apply retAt0 (r := .t [.c (dl 1 eI P.cells), .c (dl 6 eEntry (orderF L))])
    · exact ⟨⟨rfl, rfl, fun _ _ => rfl⟩, ⟨rfl, rfl, fun _ _ => rfl⟩, trivial⟩
    · exact ⟨P.cells, orderF L, rfl, rfl, hL.cl.order⟩
theorem callx_DrawLogReplay {al0 : Lim} {s0 : St} {as0 : List Operand} {d0 : Option Tmp} {K0 : St → Prop} {n : Nat} {b : Nat → Int} (ρ : List Sel) (cok_ : CallOK prog 34 [bytes n b] [] (fun r os => ∃ (cs : List Int) (L : List Entry), os = [] ∧ r = .t [.c (dl 1 eI cs), .c (dl 6 eEntry L)] ∧ (cellsL cs L))) (cn_ : nodupB (keysOf ρ) = true) (ca_ : tvsLe ρ s0.loc.length (as0.map (ev s0)) [bytes n b]) (co_ : locLe ρ s0.loc.length s0.loc s0.fz ρ []) (cl_ : limP al0 s0.loc ρ True) (ck_ : ∀ (cs : List Int) (L : List Entry), (cellsL cs L) → placesK s0.loc ρ ([].map (AObj.up ρ s0.loc.length)) fun loc' => s0.afterK loc' d0 ((.t [.c (dl 1 eI cs), .c (dl 6 eEntry L)] : TV).up ρ s0.loc.length) K0) : CallAt prog al0 s0 34 as0 d0 K0 :=
  callB ρ cok_ cn_ ca_ co_ cl_ (by rintro r os ⟨cs, L, rfl, rfl, hf0⟩; exact ck_ cs L hf0)
theorem call_DrawLogReplay {al0 : Lim} {s0 : St} {as0 : List Operand} {d0 : Option Tmp} {K0 : St → Prop} {n : Nat} {b : Nat → Int} (ρ : List Sel) (hb : ∀ i, 0 ≤ b i ∧ b i < 256) (cn_ : nodupB (keysOf ρ) = true) (ca_ : tvsLe ρ s0.loc.length (as0.map (ev s0)) [bytes n b]) (co_ : locLe ρ s0.loc.length s0.loc s0.fz ρ []) (cl_ : limP al0 s0.loc ρ True) (ck_ : ∀ (cs : List Int) (L : List Entry), (cellsL cs L) → placesK s0.loc ρ ([].map (AObj.up ρ s0.loc.length)) fun loc' => s0.afterK loc' d0 ((.t [.c (dl 1 eI cs), .c (dl 6 eEntry L)] : TV).up ρ s0.loc.length) K0) : CallAt prog al0 s0 34 as0 d0 K0 :=
  callx_DrawLogReplay ρ (DrawLogReplay_ok n b hb) cn_ ca_ co_ cl_ ck_
end Go.Proofs.AYT
