/- Plain words, and contracts of the program's functions. Conditions: as each theorem tells. -/
import Derived.Test.YteippbbcihgabaaBAyS53
import Derived.Test.YteippbbcihgabaaAyB16
import Derived.Test.YteippbbcihgabaaBAyQm
set_option linter.unusedVariables false
set_option linter.unusedSimpArgs false
set_option linter.unusedSectionVars false
namespace Go.Proofs.AYT
open Go Go.Proofs.AY Go.Proofs.Try
theorem DrawLogReplayN_ok (n : Nat) (b : Nat → Int) (hb : ∀ i, 0 ≤ b i ∧ b i < 256) : CallOK prog 34 [bytes n b] [] (fun r os => ∃ (cs : List Int) (L : List Entry), os = [] ∧ r = .t [.c (dl 1 eI cs), .c (dl 6 eEntry L)] ∧ (cellsN cs L)) := by
  refine fn_ [] tab_ok hmo func34 rfl rfl plans34_ok rfl ?_
  repeat' ((conv => whnf); first | (refine And.intro ?_ ?_) | (intro _) | (apply call0_ (g := 49); refine call_l6Open [] hb rfl ⟨⟨rfl, rfl, fun _ _ => rfl⟩, trivial⟩ trivial (by first | exact trivial | exact ⟨trivial, trivial⟩) ?_) | (apply call0_ (g := 60); refine call_l71Log [.all 0] (by omega) rfl ⟨rfl, trivial⟩ ⟨⟨trivial, rfl, ⟨rfl, rfl, fun _ _ => rfl⟩, rfl, trivial⟩, trivial⟩ (by first | exact trivial | exact ⟨⟨rfl, Nat.le_refl _, trivial⟩, trivial⟩ | exact ⟨⟨rfl, trivial, trivial⟩, trivial⟩) ?_) | (apply call0_ (g := 52); refine call_pick [.all 0] (by omega) rfl ⟨rfl, rfl, trivial⟩ ⟨⟨trivial, rfl, ⟨rfl, rfl, fun _ _ => rfl⟩, rfl, trivial⟩, trivial⟩ (by first | exact trivial | exact ⟨⟨rfl, Nat.le_refl _, trivial⟩, trivial⟩ | exact ⟨⟨rfl, trivial, trivial⟩, trivial⟩) ?_))
  all_goals first | omega | skip
  · rename_i R q' P L hq hL v h0 h1 hv
    conv => whnf
    apply ret_ []
    apply retAt0 (r := .t [.c (dl 1 eI P.cells), .c (dl 6 eEntry L)])
    · exact ⟨⟨rfl, rfl, fun _ _ => rfl⟩, ⟨rfl, rfl, fun _ _ => rfl⟩, trivial⟩
    · exact ⟨P.cells, L, rfl, rfl, hL.cn⟩
  · rename_i R q' P L hq hL v h0 h1 hv
    conv => whnf
    repeat' ((conv => whnf); first | (refine And.intro ?_ ?_) | (intro _) | (apply call0_ (g := 39); refine call_sLogOrder [] (Nat.le_trans hL.good.1 (by decide)) hL.small rfl ⟨⟨rfl, rfl, fun _ _ => rfl⟩, trivial⟩ trivial (by first | exact trivial | exact ⟨trivial, trivial⟩) ?_))
    all_goals first | omega | skip
    conv => whnf
    apply ret_ []
    apply retAt0 (r := .t [.c (dl 1 eI P.cells), .c (dl 6 eEntry (orderF L))])
    · exact ⟨⟨rfl, rfl, fun _ _ => rfl⟩, ⟨rfl, rfl, fun _ _ => rfl⟩, trivial⟩
    · exact ⟨P.cells, orderF L, rfl, rfl, hL.cn.order⟩
theorem callx_DrawLogReplayN {al0 : Lim} {s0 : St} {as0 : List Operand} {d0 : Option Tmp} {K0 : St → Prop} {n : Nat} {b : Nat → Int} (ρ : List Sel) (cok_ : CallOK prog 34 [bytes n b] [] (fun r os => ∃ (cs : List Int) (L : List Entry), os = [] ∧ r = .t [.c (dl 1 eI cs), .c (dl 6 eEntry L)] ∧ (cellsN cs L))) (cn_ : nodupB (keysOf ρ) = true) (ca_ : tvsLe ρ s0.loc.length (as0.map (ev s0)) [bytes n b]) (co_ : locLe ρ s0.loc.length s0.loc s0.fz ρ []) (cl_ : limP al0 s0.loc ρ True) (ck_ : ∀ (cs : List Int) (L : List Entry), (cellsN cs L) → placesK s0.loc ρ ([].map (AObj.up ρ s0.loc.length)) fun loc' => s0.afterK loc' d0 ((.t [.c (dl 1 eI cs), .c (dl 6 eEntry L)] : TV).up ρ s0.loc.length) K0) : CallAt prog al0 s0 34 as0 d0 K0 :=
  callB ρ cok_ cn_ ca_ co_ cl_ (by rintro r os ⟨cs, L, rfl, rfl, hf0⟩; exact ck_ cs L hf0)
theorem call_DrawLogReplayN {al0 : Lim} {s0 : St} {as0 : List Operand} {d0 : Option Tmp} {K0 : St → Prop} {n : Nat} {b : Nat → Int} (ρ : List Sel) (hb : ∀ i, 0 ≤ b i ∧ b i < 256) (cn_ : nodupB (keysOf ρ) = true) (ca_ : tvsLe ρ s0.loc.length (as0.map (ev s0)) [bytes n b]) (co_ : locLe ρ s0.loc.length s0.loc s0.fz ρ []) (cl_ : limP al0 s0.loc ρ True) (ck_ : ∀ (cs : List Int) (L : List Entry), (cellsN cs L) → placesK s0.loc ρ ([].map (AObj.up ρ s0.loc.length)) fun loc' => s0.afterK loc' d0 ((.t [.c (dl 1 eI cs), .c (dl 6 eEntry L)] : TV).up ρ s0.loc.length) K0) : CallAt prog al0 s0 34 as0 d0 K0 :=
  callx_DrawLogReplayN ρ (DrawLogReplayN_ok n b hb) cn_ ca_ co_ cl_ ck_
def plans11 : Plans := [(9, ⟨.take 0 false (.take 2 false (.alt 1 (.alt 3 (.take 4 true (.alt 5 (.alt 6 (.alt 7 (.take 8 false (.take 9 false (.take 10 false (.take 11 false (.take 12 false .done))))) .done) .done) .done)) (.alt 4 (.alt 3 (.alt 5 (.alt 6 (.alt 7 (.take 8 false (.take 9 false (.take 10 false (.take 11 false (.take 12 false .done))))) .done) .done) .done) (.alt 5 (.alt 3 (.alt 6 (.alt 7 (.take 8 false (.take 9 false (.take 10 false (.take 11 false (.take 12 false .done))))) .done) .done) .done) .done)) .done)) (.alt 4 (.alt 1 (.alt 3 (.alt 5 (.alt 6 (.alt 7 (.take 8 false (.take 9 false (.take 10 false (.take 11 false (.take 12 false .done))))) .done) .done) .done) (.alt 5 (.alt 3 (.alt 6 (.alt 7 (.take 8 false (.take 9 false (.take 10 false (.take 11 false (.take 12 false .done))))) .done) .done) .done) .done)) (.alt 5 (.alt 1 (.alt 3 (.alt 6 (.alt 7 (.take 8 false (.take 9 false (.take 10 false (.take 11 false (.take 12 false .done))))) .done) .done) .done) .done) .done)) .done))), [3, 6, 7], []⟩),
  (10, ⟨.take 0 false (.take 2 false (.take 3 false (.take 1 true (.take 4 true (.take 5 false (.take 6 false (.take 7 false (.take 8 false (.alt 9 .done .done))))))))), [9], []⟩),
  (11, ⟨.take 0 false (.take 2 false (.alt 1 (.alt 3 (.take 4 true (.alt 5 (.alt 6 (.alt 7 (.take 8 false (.take 9 false (.take 10 false (.take 11 false (.take 12 false .done))))) .done) .done) .done)) (.alt 4 (.alt 3 (.alt 5 (.alt 6 (.alt 7 (.take 8 false (.take 9 false (.take 10 false (.take 11 false (.take 12 false .done))))) .done) .done) .done) (.alt 5 (.alt 3 (.alt 6 (.alt 7 (.take 8 false (.take 9 false (.take 10 false (.take 11 false (.take 12 false .done))))) .done) .done) .done) .done)) .done)) (.alt 4 (.alt 1 (.alt 3 (.alt 5 (.alt 6 (.alt 7 (.take 8 false (.take 9 false (.take 10 false (.take 11 false (.take 12 false .done))))) .done) .done) .done) (.alt 5 (.alt 3 (.alt 6 (.alt 7 (.take 8 false (.take 9 false (.take 10 false (.take 11 false (.take 12 false .done))))) .done) .done) .done) .done)) (.alt 5 (.alt 1 (.alt 3 (.alt 6 (.alt 7 (.take 8 false (.take 9 false (.take 10 false (.take 11 false (.take 12 false .done))))) .done) .done) .done) .done) .done)) .done))), [3, 6, 7], []⟩)]
theorem plans11_ok : plansOk plans11 (bodyOf f11) = true := by kernel_rfl
set_option maxRecDepth 100000 in
theorem FnLogReplayRead_ok (n : Nat) (b : Nat → Int) (hb : ∀ i, 0 ≤ b i ∧ b i < 256) : CallOK prog 11 [bytes n b] [] (fun r os => os = [] ∧ r = bl true) := by
  refine fn_ [9, 10, 11, 12] tab_ok hmo func11 rfl rfl plans11_ok rfl ?_
  repeat' ((conv => whnf); first | (refine And.intro ?_ ?_) | (intro _) | (apply call0_ (g := 34); refine call_DrawLogReplayN [] hb rfl ⟨⟨rfl, rfl, fun _ _ => rfl⟩, trivial⟩ trivial (by first | exact trivial | exact ⟨trivial, trivial⟩) ?_))
  all_goals first | omega | skip
  · ((conv => whnf); apply ret_ []; apply retAt0 (r := bl true); rfl; exact ⟨rfl, rfl⟩)
  · rename_i cs L hL
    have hc : cs.length ≤ 1099511627776 := by have := hL.h.hc; omega
    have hc1 := hL.h.hc
    have hl := hL.h.hl
    conv => whnf
    rcases hR : replayF cs L with _ | ds
    · repeat' ((conv => whnf); first | (refine And.intro ?_ ?_) | (intro _) | (apply call0_ (g := 35); refine call_sLogReplayR [] (o := none) hc hR rfl ⟨⟨rfl, rfl, fun _ _ => rfl⟩, ⟨rfl, rfl, fun _ _ => rfl⟩, trivial⟩ trivial (by first | exact trivial | exact ⟨trivial, trivial⟩) ?_) | (apply call0_ (g := 36); refine call_iLogReplayR [] (L := L) (o := none) hc hR rfl ⟨⟨rfl, rfl, fun _ _ => rfl⟩, ⟨rfl, rfl, fun _ _ => rfl⟩, trivial⟩ trivial (by first | exact trivial | exact ⟨trivial, trivial⟩) ?_) | (apply call0_ (g := 19); refine call_lqInts []  rfl ⟨⟨rfl, rfl, fun _ _ => rfl⟩, ⟨rfl, rfl, fun _ _ => rfl⟩, trivial⟩ trivial (by first | exact trivial | exact ⟨trivial, trivial⟩) ?_ ?_))
      all_goals first | omega | skip
      all_goals first | exact absurd rfl (by assumption) | ((conv => whnf); apply ret_ []; apply retAt0 (r := bl true); rfl; exact ⟨rfl, rfl⟩) | (trace_state; sorry)
    · have hlen : ds.length = cs.length := replayF_len hR
      have hn := replayF_nums hL.n hL.h.hs hR 0 (by omega)
      repeat' ((conv => whnf); first | (refine And.intro ?_ ?_) | (intro _) | (apply call0_ (g := 35); refine call_sLogReplayR [] (o := some ds) hc hR rfl ⟨⟨rfl, rfl, fun _ _ => rfl⟩, ⟨rfl, rfl, fun _ _ => rfl⟩, trivial⟩ trivial (by first | exact trivial | exact ⟨trivial, trivial⟩) ?_) | (apply call0_ (g := 36); refine call_iLogReplayR [] (L := L) (o := some ds) hc hR rfl ⟨⟨rfl, rfl, fun _ _ => rfl⟩, ⟨rfl, rfl, fun _ _ => rfl⟩, trivial⟩ trivial (by first | exact trivial | exact ⟨trivial, trivial⟩) ?_) | (apply call0_ (g := 19); refine call_lqInts []  rfl ⟨⟨rfl, rfl, fun _ _ => rfl⟩, ⟨rfl, rfl, fun _ _ => rfl⟩, trivial⟩ trivial (by first | exact trivial | exact ⟨trivial, trivial⟩) ?_ ?_))
      all_goals first | omega | skip
      all_goals first | exact absurd rfl (by assumption) | skip
      conv => whnf
      have hx := replay_last (x := ds.getD 0 default) (y := 42) hR (by omega)
      rw [if_pos rfl] at hx
      have hx2 := replay_last (x := (ds.getD 0 default + 1).tmod 100) (y := 42) hR (by omega)
      rw [if_neg (turn_ne hn.1 hn.2)] at hx2
      apply cut_ (fun u : Unit => True) (fun u : Unit => (⟨110, [(3, lst 1 eI cs), (4, lst 6 eEntry L), (7, lst 1 eI ds), (9, ptr 2)], [rl 51 2 ePut [⟨0, ds.getD 0 default⟩], rl 51 2 ePut [⟨0, 42⟩], .box 40 [iv 0, iv 0, iv 0, .s ⟨0, 0⟩ 1, .s ⟨1, 0⟩ 1, iv 0]], []⟩ : St))
      · repeat' ((conv => whnf); first | (refine And.intro ?_ ?_) | (intro _))
        all_goals first | omega | (simp only [Option.getD_some]; omega) | skip
        all_goals (conv => whnf)
        (apply to_ []; apply toAt_ [.all 0, .all 1, .all 2] (); rotate_left 1; exact ⟨rfl, rfl, rfl, rfl, ⟨⟨rfl, rfl, fun _ _ => rfl⟩, ⟨rfl, rfl, fun _ _ => rfl⟩, ⟨rfl, rfl, fun _ _ => rfl⟩, rfl, trivial⟩, ⟨trivial, rfl, rfl, rfl, oneLe ⟨rfl, rfl, trivial⟩⟩, ⟨trivial, rfl, rfl, rfl, oneLe ⟨rfl, rfl, trivial⟩⟩, ⟨trivial, rfl, rfl, rfl, rfl, rfl, rfl, rfl, trivial⟩, trivial⟩)
        trivial
      · rintro u -
        apply cut_ (fun u : Unit => True) (fun u : Unit => (⟨110, [(3, lst 1 eI cs), (4, lst 6 eEntry L), (7, lst 1 eI ds), (9, ptr 2), (10, lst 1 eI (ds.set 0 42)), (11, bl true)], [rl 51 2 ePut [⟨0, ds.getD 0 default⟩], rl 51 2 ePut [⟨0, 42⟩], .box 40 [iv 0, iv 0, iv 0, .s ⟨0, 0⟩ 1, .s ⟨1, 0⟩ 1, iv 0]], []⟩ : St))
        · repeat' ((conv => whnf); first | (refine And.intro ?_ ?_) | (intro _) | (apply call0_ (g := 36); refine call_iLogReplayO [.all 0, .all 1, .all 6] (L := L) (x := ds.getD 0 default) (y := 42) (o := some (ds.set 0 42)) hc hx rfl ⟨⟨rfl, rfl, fun _ _ => rfl⟩, congrArg (CV.s _) (by rw [mEs_len]; omega), trivial⟩ ⟨⟨trivial, rfl, rfl, rfl, oneLe ⟨rfl, rfl, trivial⟩⟩, ⟨trivial, rfl, rfl, rfl, oneLe ⟨rfl, rfl, trivial⟩⟩, ⟨trivial, rfl, rfl, (by rw [mEs_len]; omega), appLe (fun _ => ⟨rfl, rfl, rfl, ⟨rfl, rfl, fun _ _ => rfl⟩, ⟨rfl, rfl, fun _ _ => rfl⟩, rfl, trivial⟩) ⟨rfl, rfl, rfl, rfl, rfl, rfl, trivial⟩⟩, trivial⟩ (by first | exact trivial | exact ⟨⟨rfl, Nat.le_refl _, trivial⟩, trivial⟩ | exact ⟨⟨rfl, trivial, ⟨rfl, trivial, ⟨rfl, trivial, trivial⟩⟩⟩, trivial⟩) ?_))
          all_goals first | omega | (simp only [ti40]; omega) | skip
          all_goals (conv => whnf)
          all_goals
            (apply to_ []; apply toAt_ [.all 0, .all 1, .all 2] (); rotate_left 1; exact ⟨rfl, rfl, rfl, rfl, ⟨⟨rfl, rfl, fun _ _ => rfl⟩, ⟨rfl, rfl, fun _ _ => rfl⟩, ⟨rfl, rfl, fun _ _ => rfl⟩, rfl, ⟨rfl, rfl, fun _ _ => rfl⟩, rfl, trivial⟩, ⟨trivial, rfl, rfl, rfl, fun _ _ => by first | exact ⟨rfl, trivial⟩ | exact ⟨rfl, rfl, trivial⟩ | (refine eMEc ?_ ?_ _; exact fun _ => ⟨rfl, rfl, rfl, ⟨rfl, rfl, fun _ _ => rfl⟩, ⟨rfl, rfl, fun _ _ => rfl⟩, rfl, trivial⟩; exact ⟨rfl, rfl, rfl, rfl, rfl, rfl, trivial⟩)⟩, ⟨trivial, rfl, rfl, rfl, fun _ _ => by first | exact ⟨rfl, trivial⟩ | exact ⟨rfl, rfl, trivial⟩ | (refine eMEc ?_ ?_ _; exact fun _ => ⟨rfl, rfl, rfl, ⟨rfl, rfl, fun _ _ => rfl⟩, ⟨rfl, rfl, fun _ _ => rfl⟩, rfl, trivial⟩; exact ⟨rfl, rfl, rfl, rfl, rfl, rfl, trivial⟩)⟩, ⟨trivial, rfl, rfl, rfl, rfl, rfl, rfl, rfl, trivial⟩, trivial⟩)
          all_goals trivial
        · rintro u -
          apply cut_ (fun u : Unit => True) (fun u : Unit => (⟨110, [(3, lst 1 eI cs), (4, lst 6 eEntry L), (7, lst 1 eI ds), (9, ptr 2), (10, lst 1 eI (ds.set 0 42)), (11, bl true)], [rl 51 2 ePut [⟨0, (ds.getD 0 default + 1).tmod 100⟩], rl 51 2 ePut [⟨0, 42⟩], .box 40 [iv 0, iv 0, iv 0, .s ⟨0, 0⟩ 1, .s ⟨1, 0⟩ 1, iv 0]], []⟩ : St))
          · have hn' : 0 ≤ ds.getD (Int.toNat 0) default ∧ ds.getD (Int.toNat 0) default ≤ 99 := hn
            repeat' ((conv => whnf); first | (refine And.intro ?_ ?_) | (intro _))
            all_goals first | omega | (simp only [List.length_cons, List.length_nil]; omega) | (simp; done) | skip
            all_goals (conv => whnf)
            all_goals
              (apply to_ []; apply toAt_ [.all 0, .all 1, .all 2] (); rotate_left 1; exact ⟨rfl, rfl, rfl, rfl, ⟨⟨rfl, rfl, fun _ _ => rfl⟩, ⟨rfl, rfl, fun _ _ => rfl⟩, ⟨rfl, rfl, fun _ _ => rfl⟩, rfl, ⟨rfl, rfl, fun _ _ => rfl⟩, rfl, trivial⟩, ⟨trivial, rfl, rfl, rfl, oneLe ⟨rfl, rfl, trivial⟩⟩, ⟨trivial, rfl, rfl, rfl, oneLe ⟨rfl, rfl, trivial⟩⟩, ⟨trivial, rfl, rfl, rfl, rfl, rfl, rfl, rfl, trivial⟩, trivial⟩)
            all_goals trivial
          · rintro u -
            apply cut_ (fun u : Unit => True) (fun u : Unit => (⟨110, [(10, lst 1 eI (ds.set 0 42)), (11, bl true), (13, bl false)], [], []⟩ : St))
            · repeat' ((conv => whnf); first | (refine And.intro ?_ ?_) | (intro _) | (apply call0_ (g := 36); refine call_iLogReplayO [.all 0, .all 1, .all 6] (L := L) (x := (ds.getD 0 default + 1).tmod 100) (y := 42) (o := none) hc hx2 rfl ⟨⟨rfl, rfl, fun _ _ => rfl⟩, congrArg (CV.s _) (by rw [mEs_len]; omega), trivial⟩ ⟨⟨trivial, rfl, rfl, rfl, oneLe ⟨rfl, rfl, trivial⟩⟩, ⟨trivial, rfl, rfl, rfl, oneLe ⟨rfl, rfl, trivial⟩⟩, ⟨trivial, rfl, rfl, (by rw [mEs_len]; omega), appLe (fun _ => ⟨rfl, rfl, rfl, ⟨rfl, rfl, fun _ _ => rfl⟩, ⟨rfl, rfl, fun _ _ => rfl⟩, rfl, trivial⟩) ⟨rfl, rfl, rfl, rfl, rfl, rfl, trivial⟩⟩, trivial⟩ (by first | exact trivial | exact ⟨⟨rfl, Nat.le_refl _, trivial⟩, trivial⟩ | exact ⟨⟨rfl, trivial, ⟨rfl, trivial, ⟨rfl, trivial, trivial⟩⟩⟩, trivial⟩) ?_))
              all_goals first | omega | (simp only [ti40]; omega) | skip
              all_goals (conv => whnf)
              all_goals
                (apply to_ []; apply toAt_ [] (); rotate_left 1; exact ⟨rfl, rfl, rfl, rfl, ⟨⟨rfl, rfl, fun _ _ => rfl⟩, rfl, rfl, trivial⟩, trivial⟩)
              all_goals trivial
            · rintro u -
              repeat' ((conv => whnf); first | (refine And.intro ?_ ?_) | (intro _))
              all_goals first
              | omega
              | (rw [List.length_set]; omega)
              | (exfalso; rename_i h; exact h (show (ds.set 0 42).getD 0 default = 42 by rw [getD_set _ _ _ _ _ (by omega), if_pos rfl]))
              | ((conv => whnf); apply ret_ []; apply retAt0 (r := bl true); rfl; exact ⟨rfl, rfl⟩)
theorem callx_FnLogReplayRead {al0 : Lim} {s0 : St} {as0 : List Operand} {d0 : Option Tmp} {K0 : St → Prop} {n : Nat} {b : Nat → Int} (ρ : List Sel) (cok_ : CallOK prog 11 [bytes n b] [] (fun r os => os = [] ∧ r = bl true)) (cn_ : nodupB (keysOf ρ) = true) (ca_ : tvsLe ρ s0.loc.length (as0.map (ev s0)) [bytes n b]) (co_ : locLe ρ s0.loc.length s0.loc s0.fz ρ []) (cl_ : limP al0 s0.loc ρ True) (ck_ : placesK s0.loc ρ ([].map (AObj.up ρ s0.loc.length)) fun loc' => s0.afterK loc' d0 ((bl true : TV).up ρ s0.loc.length) K0) : CallAt prog al0 s0 11 as0 d0 K0 :=
  callB ρ cok_ cn_ ca_ co_ cl_ (by rintro r os ⟨rfl, rfl⟩; exact ck_ )
theorem call_FnLogReplayRead {al0 : Lim} {s0 : St} {as0 : List Operand} {d0 : Option Tmp} {K0 : St → Prop} {n : Nat} {b : Nat → Int} (ρ : List Sel) (hb : ∀ i, 0 ≤ b i ∧ b i < 256) (cn_ : nodupB (keysOf ρ) = true) (ca_ : tvsLe ρ s0.loc.length (as0.map (ev s0)) [bytes n b]) (co_ : locLe ρ s0.loc.length s0.loc s0.fz ρ []) (cl_ : limP al0 s0.loc ρ True) (ck_ : placesK s0.loc ρ ([].map (AObj.up ρ s0.loc.length)) fun loc' => s0.afterK loc' d0 ((bl true : TV).up ρ s0.loc.length) K0) : CallAt prog al0 s0 11 as0 d0 K0 :=
  callx_FnLogReplayRead ρ (FnLogReplayRead_ok n b hb) cn_ ca_ co_ cl_ ck_
end Go.Proofs.AYT

