/- A symbolic executor over the model, plain words, and contracts of the program's functions, part 3. Conditions: as each theorem tells. -/
import Derived.Test.YteippbbcihgabaaAyB02
set_option linter.unusedVariables false
set_option linter.unusedSimpArgs false
set_option linter.unusedSectionVars false
/- AY, part M: code; a function's call. -/
namespace Go.Proofs.AY
open Go Go.RowKit

inductive Ex where
  | normal
  | exit (id : Nat)
  | ret

/-- From here on the state is one of J's (some i with p): rows fs are frozen, the objects numbered anew by ρ. -/
def ToAt {ι : Type} (m : Nat) (J : ι → St) (p : ι → Prop) (st : St) : Prop := ∃ ρ i, p i ∧ St.le m ρ st (J i)
def ToVC {ι : Type} (m : Nat) (J : ι → St) (p : ι → Prop) (st : St) : Prop := ∃ fs, frzsK fs st fun st => ToAt m J p st
def LoopVC (m : Nat) (X : St → (Ex → St → Prop) → Prop) (st : St) (Q : Ex → St → Prop) : Prop :=
  ∃ (ι : Type) (inv : ι → Prop) (J : ι → St) (μ : ι → Nat), ToVC m J inv st ∧ ∀ i, inv i → X (J i) fun e st' => match e with
    | .normal => ToVC m J (fun i' => inv i' ∧ μ i' < μ i) st'
    | e => Q e st'
def CutVC (m : Nat) (X : St → (Ex → St → Prop) → Prop) (st : St) (Q : Ex → St → Prop) (Y : St → Prop) : Prop :=
  ∃ (ι : Type) (inv : ι → Prop) (J : ι → St), X st (fun e st' => match e with
    | .normal => ToVC m J inv st'
    | e => Q e st') ∧ ∀ i, inv i → Y (J i)
/-- A region's plan: its orders, the operations that write, the objects that calls are handed. -/
structure Plan where
  s : Sch
  ds : List Nat
  hand : List Nat
abbrev Plans := List (Nat × Plan)
def planOf : Plans → Nat → Option Plan
  | [], _ => none
  | (k, p) :: l, id => match Nat.beq k id with
    | true => some p
    | false => planOf l id
def firstReg : Code → Option Nat
  | .region id _ _ => some id
  | .seq x _ => firstReg x
  | .block _ c => firstReg c
  | .loop c => firstReg c
  | _ => none
def cutAt (cuts : List Nat) (c : Code) : Bool := match cuts with
  | [] => false
  | cuts => match firstReg c with
    | some id => hasB id cuts
    | none => false

def awp (P : Program) (tt : TT) (D : Plans) (cuts : List Nat) (m : Nat) : Code → St → (Ex → St → Prop) → Prop
  | .skip, st, Q => Q .normal st
  | .region id ops draw, st, Q => match draw with
    | false => awpOps P tt ops.toList ops.toList st (Q .normal)
    | true => match planOf D id with
      | some p => drawV P tt (p.hand, st.loc) p.ds ops.toList false p.s st (Q .normal)
      | none => False
  | .seq x y, st, Q => match cutAt cuts y with
    | true => CutVC m (awp P tt D cuts m x) st Q (fun st => awp P tt D cuts m y st Q)
    | false => awp P tt D cuts m x st fun e st' => match e with
      | .normal => awp P tt D cuts m y st' Q
      | .exit id => Q (.exit id) st'
      | .ret => Q .ret st'
  | .cond c x y, st, Q => match ev st c with
    | .c (.v (.bool b)) => match b with
      | true => awp P tt D cuts m x st Q
      | false => awp P tt D cuts m y st Q
    | _ => False
  | .block id c, st, Q => awp P tt D cuts m c st fun e st' => match e with
      | .normal => Q .normal st'
      | .exit id' => match Nat.beq id' id with
        | true => Q .normal st'
        | false => Q (.exit id') st'
      | .ret => Q .ret st'
  | .loop c, st, Q => LoopVC m (awp P tt D cuts m c) st Q
  | .exit id, st, Q => Q (.exit id) st
  | .ret, st, Q => Q .ret st
  | _, _, _ => False

/-- Every region that draws has a plan that covers its orders. -/
def plansOk (D : Plans) : Code → Bool
  | .region id ops draw => match draw with
    | false => true
    | true => match planOf D id with
      | some p => Region.noSelect ops && schOk ops p.ds false p.s ops.size (Array.replicate ops.size false)
      | none => false
  | .seq x y => plansOk D x && plansOk D y
  | .cond _ x y => plansOk D x && plansOk D y
  | .block _ c => plansOk D c
  | .loop c => plansOk D c
  | _ => true

def resTV (st : St) (r : ResultVar) : Option (Cnd × TV) := match r with
  | .tmp t => some (.t, ev st (.tmp t))
  | .cell a _ => none
/-- The results: of slots, or of cells (tt: their types). -/
def resV (tt : TT) (st : St) (r : ResultVar) : Option TV := match r with
  | .tmp t => some (ev st (.tmp t))
  | .cell a t => match tt t with
    | some ti => match ev st (.tmp a) with
      | .c (.p r off) => match loadV ti st (.c (.p r off)) with
        | some (.t, tv) => some tv
        | _ => none
      | _ => none
    | none => none
def compOf (x : TV) : Option Comp := match x with
  | .c x => some (.c x)
  | .a l => some (.a l)
  | _ => none
def resVs (tt : TT) (st : St) : List ResultVar → Option (List TV)
  | [] => some []
  | r :: rs => match resV tt st r with
    | some x => match resVs tt st rs with
      | some l => some (x :: l)
      | none => none
    | none => none
def compsOf : List TV → Option (List Comp)
  | [] => some []
  | x :: l => match compOf x with
    | some c => match compsOf l with
      | some cs => some (c :: cs)
      | none => none
    | none => none
def resAll (tt : TT) (st : St) (rs : List ResultVar) : Option TV := match resVs tt st rs with
  | some [x] => some x
  | some l => match compsOf l with
    | some cs => some (.t cs)
    | none => none
  | none => none
/-- A function's end: the objects are picked out and numbered anew. -/
def RetAt (m : Nat) (st : St) (r0 : TV) (K : TV → List AObj → Prop) : Prop :=
  ∃ ρ r os, idB m 0 ρ = true ∧ nodupB (keysOf ρ) = true ∧ tvLe ρ st.loc.length r0 r ∧ locLe ρ st.loc.length st.loc st.fz ρ os ∧ K r os
def RetVC (tt : TT) (m : Nat) (rs : List ResultVar) (st : St) (K : TV → List AObj → Prop) : Prop :=
  ∃ fs, frzsK fs st fun st => match resAll tt st rs with
    | some r0 => tvNf r0 fun r0 => RetAt m st r0 K
    | none => False
def argTm : Nat → List TV → List (Nat × TV)
  | _, [] => []
  | k, x :: l => (k, x) :: argTm (k + 1) l

section
variable {P : Program} {C : Ctx} {w w' : World} {M M' : Mp} {Z Z' : Nat → Prop} {st st' : St} {a a' : Act} {tt : TT} {D : Plans} {cuts : List Nat} {m : Nat}

/-- What is known behind the code. -/
def Post (C : Ctx) (m : Nat) (Q : Ex → St → Prop) : Exit → Act → World → Prop
  | .normal, a, w => Good C (Q .normal) a w
  | .exit id, a, w => Good C (Q (.exit id)) a w
  | .ret, a, w => Good C (Q .ret) a w
  | _, _, _ => False

theorem ToVC.good {ι : Type} {J : ι → St} {p : ι → Prop} (hm : C.M0.length = m) (h : RelC C M Z st a w) (ht : ToVC m J p st) : ∃ i, p i ∧ ∃ M' Z', RelC C M' Z' (J i) a w := by
  obtain ⟨fs, ht⟩ := ht
  obtain ⟨Z', st', h', ⟨ρ, i, hp, hle⟩, _⟩ := frzs_ok fs h ht
  exact ⟨i, hp, _, _, h'.le hm hle⟩

theorem min_of {p : Nat → Prop} : (∃ n, p n) → ∃ n, p n ∧ ∀ k, p k → n ≤ k := by
  rintro ⟨n, hn⟩
  induction n using Nat.strongRecOn with
  | ind n ih =>
    by_cases h : ∃ k, k < n ∧ p k
    · obtain ⟨k, hk, hp⟩ := h; exact ih k hk hp
    · exact ⟨n, hn, fun k hk => Nat.le_of_not_lt fun hlt => h ⟨k, hlt, hk⟩⟩

theorem awp_ok (hT : TOk P tt) (hmo : P.follows .mixedOrders = true) (hm : C.M0.length = m) : ∀ (c : Code), plansOk D c = true → ∀ {Q : Ex → St → Prop} {M Z st a w}, RelC C M Z st a w → awp P tt D cuts m c st Q → c.wp P (Post C m Q) a w := by
  intro c
  induction c with
  | skip => intro _ Q M Z st a w h hk; exact wp_skip ⟨M, Z, st, h, hk⟩
  | region id ops draw =>
    intro hp Q M Z st a w h hk
    cases draw with
    | false =>
      simp only [awp] at hk
      refine wp_region ?_
      have := awpOps_ok (Q := Post C m Q) hT (ops := ops) (K := Q .normal) (fun a w hg => hg) ops.toList 0 (fun j => by simp) h hk
      rw [List.range_eq_range']
      simpa using this
    | true =>
      simp only [awp] at hk
      simp only [plansOk] at hp
      cases hpl : planOf D id with
      | none => rw [hpl] at hk; exact hk.elim
      | some p =>
        rw [hpl] at hk hp
        simp only [Bool.and_eq_true] at hp hk
        have h' : RelC C M Z st a { w with drawn := w.drawn + 1 } := ⟨h.r.step (Since.drew _ w), h.e, h.z0, h.z1⟩
        refine wp_region_G (ds := p.ds) (B := fun b => Z b ∨ Calm (p.hand, st.loc) M b) hmo ?_
        refine ((drawV_ok (C := C) (Q := Post C m Q) (K := Q .normal) hT hp.1 h'.r.h.len h'.e h'.r.h.inj (fun a w hg => hg) (fun c a w hq => hq) p.s ops.size _ h' (Mp.le.refl _) ?_).1 hp.2 hk)
        rintro b ⟨r, v, q1, _, q3, q4⟩
        exact liveAt.lt h'.r.h q1 q3 q4
  | seq x y ihx ihy =>
    intro hp Q M Z st a w h hk
    simp only [plansOk, Bool.and_eq_true] at hp
    simp only [awp] at hk
    refine wp_seq ?_
    split at hk
    · obtain ⟨ι, inv, J, h1, h2⟩ := hk
      refine wp_mono (ihx hp.1 h h1) ?_
      intro e a' w' hpost
      cases e with
      | normal =>
        obtain ⟨M', Z', st', h', ht⟩ := hpost
        obtain ⟨i, hi, M2, Z2, h3⟩ := ToVC.good hm h' ht
        exact ihy hp.2 h3 (h2 i hi)
      | exit id => exact hpost
      | ret => exact hpost
      | goto => exact hpost.elim
      | panic => exact hpost.elim
      | outgrown => exact hpost.elim
    · refine wp_mono (ihx hp.1 h hk) ?_
      intro e a' w' hpost
      cases e with
      | normal =>
        obtain ⟨M', Z', st', h', ht⟩ := hpost
        exact ihy hp.2 h' ht
      | exit id => exact hpost
      | ret => exact hpost
      | goto => exact hpost.elim
      | panic => exact hpost.elim
      | outgrown => exact hpost.elim
  | cond c x y ihx ihy =>
    intro hp Q M Z st a w h hk
    simp only [plansOk, Bool.and_eq_true] at hp
    simp only [awp] at hk
    split at hk
    · rename_i b hb
      refine wp_cond (bool_ok h hb) ?_
      cases b with
      | true => exact ihx hp.1 h hk
      | false => exact ihy hp.2 h hk
    · exact hk.elim
  | block id c ih =>
    intro hp Q M Z st a w h hk
    simp only [plansOk] at hp
    simp only [awp] at hk
    refine wp_block (wp_mono (ih hp h hk) ?_)
    intro e a' w' hpost
    cases e with
    | normal => exact hpost
    | exit id' =>
      obtain ⟨M', Z', st', h', ht⟩ := hpost
      simp only at ht
      unfold Exit.inBlock
      split at ht
      · rename_i e
        have e := Nat.eq_of_beq_eq_true e
        subst e
        simp only [if_true]
        exact ⟨M', Z', st', h', ht⟩
      · rename_i e
        have hne : id' ≠ id := fun e' => by rw [e', Nat.beq_refl] at e; cases e
        simp only [hne, if_false]
        exact ⟨M', Z', st', h', ht⟩
    | ret => exact hpost
    | goto => exact hpost.elim
    | panic => exact hpost.elim
    | outgrown => exact hpost.elim
  | loop c ih =>
    intro hp Q M Z st a w h hk
    simp only [plansOk] at hp
    simp only [awp] at hk
    obtain ⟨ι, inv, J, μ, h1, h2⟩ := hk
    let I : Act → World → Nat → Prop := fun a w n => ∃ i, inv i ∧ μ i = n ∧ ∃ M Z, RelC C M Z (J i) a w
    have hI : ∀ a w, (∃ n, I a w n) → ∃ n, I a w n ∧ ∀ k, I a w k → n ≤ k := fun a w h => min_of h
    let μ' : Act → World → Nat := fun a w => by
      classical
      exact if h : ∃ n, I a w n then (hI a w h).choose else 0
    have hμ : ∀ a w, (∃ n, I a w n) → I a w (μ' a w) ∧ ∀ k, I a w k → μ' a w ≤ k := fun a w h => by
      have : μ' a w = (hI a w h).choose := dif_pos h
      rw [this]
      exact (hI a w h).choose_spec
    refine wp_loop (fun a w => ∃ n, I a w n) μ' ?_ ?_
    · obtain ⟨i, hi, M2, Z2, h3⟩ := ToVC.good hm h h1
      exact ⟨μ i, i, hi, rfl, M2, Z2, h3⟩
    · intro a w hIa
      obtain ⟨⟨i, hi, hmi, M2, Z2, h3⟩, hmin⟩ := hμ a w hIa
      refine wp_mono (ih hp h3 (h2 i hi)) ?_
      intro e a' w' hpost
      cases e with
      | normal =>
        obtain ⟨M', Z', st', h', ht⟩ := hpost
        obtain ⟨i', ⟨hi', hlt⟩, M4, Z4, h4⟩ := ToVC.good hm h' ht
        have hIa' : I a' w' (μ i') := ⟨i', hi', rfl, M4, Z4, h4⟩
        refine ⟨⟨_, hIa'⟩, ?_⟩
        have := (hμ a' w' ⟨_, hIa'⟩).2 _ hIa'
        omega
      | exit id => exact hpost
      | ret => exact hpost
      | goto => exact hpost.elim
      | panic => exact hpost.elim
      | outgrown => exact hpost.elim
  | rangeFunc => intro _ Q M Z st a w h hk; exact hk.elim
  | exit id => intro _ Q M Z st a w h hk; exact wp_exit ⟨M, Z, st, h, hk⟩
  | scope => intro _ Q M Z st a w h hk; exact hk.elim
  | label => intro _ Q M Z st a w h hk; exact hk.elim
  | goto => intro _ Q M Z st a w h hk; exact hk.elim
  | ret => intro _ Q M Z st a w h hk; exact wp_ret ⟨M, Z, st, h, hk⟩
  | refuse => intro _ Q M Z st a w h hk; exact hk.elim

def resF (tmps : Array Value) (r : ResultVar) : Sem Value := match r with
  | .tmp t => pure (tmps.getD t undef)
  | .cell q t => do loadVar t (← asAddr (tmps.getD q undef))
theorem results_eq (fn : Func) (tmps : Array Value) : results fn tmps = (do
  let vs ← fn.results.mapM (resF tmps)
  pure (if h : vs.size = 1 then vs[0] else .tuple vs)) := rfl
theorem resV_ok (hT : TOk P tt) (h : RelC C M Z st a w) {r : ResultVar} {x : TV} (hr : resV tt st r = some x) :
    ∃ v, (resF a.tmps r).run P w = .ok v w ∧ TRel M w Z x v := by
  cases r with
  | tmp t =>
    cases hr
    exact ⟨_, rfl, ev_ok h.r (.tmp t)⟩
  | cell q t =>
    simp only [resV] at hr
    split at hr
    · rename_i ti hti
      have hq : TRel M w Z (ev st (.tmp q)) (a.tmps.getD q undef) := ev_ok h.r (.tmp q)
      split at hr
      · rename_i r off he
        rw [he] at hq
        split at hr
        · rename_i tv hl
          cases hr
          obtain ⟨v, h1, h2⟩ := loadV_ok h.r (hT _ _ hti) hq hl trivial
          refine ⟨v, ?_, h1⟩
          obtain ⟨b, hM, hu⟩ := hq
          have h3 := h2 w (fun _ _ => rfl) (fun _ _ _ _ _ _ => rfl)
          rw [hu] at h3
          unfold resF
          simp only [hu]
          simpa [asAddr, Instr.loadAt, Instr.sureAddr] using h3
        · cases hr
      · cases hr
    · cases hr
theorem resVs_ok (hT : TOk P tt) (h : RelC C M Z st a w) : ∀ {rs : List ResultVar} {xs : List TV}, resVs tt st rs = some xs →
    ∃ vs : List Value, (rs.mapM (resF a.tmps)).run P w = .ok vs w ∧ All2 (TRel M w Z) xs vs
  | [], xs, hr => by cases hr; exact ⟨[], by simp, .nil⟩
  | r :: rs, xs, hr => by
    simp only [resVs] at hr
    split at hr
    · rename_i x hx
      split at hr
      · rename_i l hl
        cases hr
        obtain ⟨v, h1, h2⟩ := resV_ok hT h hx
        obtain ⟨vs, h3, h4⟩ := resVs_ok hT h hl
        refine ⟨v :: vs, ?_, .cons h2 h4⟩
        rw [List.mapM_cons]
        simp only [Sem.run_bind, h1, Result.andThen_ok, h3, Sem.run_pure]
      · cases hr
    · cases hr
theorem compsOf_ok : ∀ {xs : List TV} {cs : List Comp} {vs : List Value}, compsOf xs = some cs → All2 (TRel M w Z) xs vs → All2 (CompRel M w Z) cs vs
  | [], cs, vs, hc, h => by cases hc; cases h; exact .nil
  | x :: xs, cs, vs, hc, h => by
    cases h with
    | cons h1 h2 =>
      simp only [compsOf] at hc
      split at hc
      · rename_i c hx
        split at hc
        · rename_i l hl
          cases hc
          refine .cons ?_ (compsOf_ok hl h2)
          cases x <;> cases hx
          · exact h1
          · exact h1
        · cases hc
      · cases hc
theorem resAll_ok (hT : TOk P tt) (h : RelC C M Z st a w) {fn : Func} {x : TV} (hr : resAll tt st fn.results.toList = some x) : ∃ v, (results fn a.tmps).run P w = .ok v w ∧ TRel M w Z x v := by
  have hrun : ∀ {vs : List Value}, (fn.results.toList.mapM (resF a.tmps)).run P w = .ok vs w → (results fn a.tmps).run P w = .ok (if h : vs.toArray.size = 1 then vs.toArray[0] else .tuple vs.toArray) w := fun {vs} h1 => by
    rw [results_eq, Array.mapM_eq_mapM_toList]
    simp only [Sem.run_bind, Sem.run_map, h1, Result.andThen_ok, Sem.run_pure]
  unfold resAll at hr
  cases hxs : resVs tt st fn.results.toList with
  | none => rw [hxs] at hr; cases hr
  | some xs =>
    rw [hxs] at hr
    obtain ⟨vs, h1, h2⟩ := resVs_ok hT h hxs
    rw [hrun h1]
    match xs, vs, h2, hr with
    | [x'], [v], h2, hr =>
      cases hr
      cases h2 with
      | cons h3 _ => exact ⟨v, by simp, h3⟩
    | [], [], h2, hr =>
      simp only [compsOf] at hr
      cases hr
      exact ⟨_, rfl, [], by simp, .nil⟩
    | x1 :: x2 :: xs, v1 :: v2 :: vs, h2, hr =>
      simp only at hr
      split at hr
      · rename_i cs hcs
        cases hr
        exact ⟨_, rfl, v1 :: v2 :: vs, by simp, compsOf_ok hcs h2⟩
      · cases hr
    | [], _ :: _, h2, _ => cases h2
    | _ :: _, [], h2, _ => cases h2
    | [_], _ :: _ :: _, h2, _ => cases h2 with | cons _ h => cases h
    | _ :: _ :: _, [_], h2, _ => cases h2 with | cons _ h => cases h

theorem argTm_get : ∀ (l : List TV) (k t : Nat), tmGet (argTm k l) t = if k ≤ t then (l[t - k]?).getD .bad else .bad
  | [], k, t => by simp [argTm, tmGet]
  | x :: l, k, t => by
    simp only [argTm, tmGet]
    split
    · rename_i e; rw [Nat.eq_of_beq_eq_true e]; simp
    · rename_i e
      have hne : k ≠ t := fun e' => by rw [e', Nat.beq_refl] at e; cases e
      rw [argTm_get l (k + 1) t]
      by_cases hk : k ≤ t
      · rw [if_pos (by omega), if_pos hk]
        obtain ⟨d, rfl⟩ : ∃ d, t = k + 1 + d := ⟨t - (k + 1), by omega⟩
        rw [show k + 1 + d - (k + 1) = d by omega, show k + 1 + d - k = d + 1 by omega]
        simp
      · rw [if_neg (by omega), if_neg hk]

def endQ (tt : TT) (m : Nat) (rs : List ResultVar) (K : TV → List AObj → Prop) (e : Ex) (st : St) : Prop := match e with
  | .exit _ => False
  | _ => RetVC tt m rs st K

theorem callOK_of (hT : TOk P tt) (hmo : P.follows .mixedOrders = true) {g : Nat} {fn : Func} {c : Code} (hf : P.funcs[g]? = some fn) (hb : fn.body = some c) (hnm : (fn.name == "runtime.NumGoroutine") = false) (hp : plansOk D c = true)
    {args : List TV} {objs : List AObj} {K : TV → List AObj → Prop} (hl : args.length ≤ fn.ntmps)
    (h : awp P tt D cuts objs.length c ⟨fn.ntmps, argTm 0 args, objs, []⟩ (endQ tt objs.length fn.results.toList K)) : CallOK P g args objs K := by
  refine ⟨fun as w => (by
    have hnm' : ¬ fn.name = "runtime.NumGoroutine" := by simpa using hnm
    simp [callFunc, hf, hnm', hb]), fun w M Z vals hh ha => ?_⟩
  have hvl := ha.length
  let C : Ctx := { T := Blks M objs, w0 := w, M0 := M, Z0 := Z }
  have hst : RelC C M Z ⟨fn.ntmps, argTm 0 args, objs, []⟩ { tmps := vals.toArray ++ Array.replicate (fn.ntmps - vals.toArray.size) undef, defers := [] } w := by
    refine ⟨⟨hh, by simp; omega, fun t => ?_, fun k D hD => (by cases hD), rfl⟩, Mp.le.refl _, fun _ h => h, fun _ h => .inl h⟩
    rw [argTm_get]
    simp only [Nat.zero_le, if_true, Nat.sub_zero]
    cases hx : args[t]? with
    | none => trivial
    | some x =>
      obtain ⟨v, hv, hr⟩ := ha.get hx
      have htl := (List.getElem?_eq_some_iff.1 hv).1
      rw [Array.getD_eq_getD_getElem?, Array.getElem?_append_left (by simpa using htl)]
      simp only [List.getElem?_toArray, hv]
      exact hr
  refine calls_of_wp hf hb (wp_mono (awp_ok hT hmo hh.len c hp hst h) ?_)
  have fin : ∀ a w', Good C (fun st => RetVC tt objs.length fn.results.toList st K) a w' → a.defers = [] ∧ ∃ v, (results fn a.tmps).run P w' = .ok v w' ∧ ∃ u r objs' M' Z', Ending.returned v = .returned u ∧ K r objs' ∧ M.le M' ∧ (∀ b, Z b → Z' b) ∧ (∀ b, Z' b → Z b ∨ Blks M objs b ∨ w.heap.size ≤ b) ∧ HRel (Blks M objs) w M' Z' objs' w' ∧ TRel M' w' Z' r u := by
    rintro a w' ⟨M1, Z1, st1, h1, fs, hk⟩
    obtain ⟨Z2, st2, h2, hk, _⟩ := frzs_ok fs h1 hk
    split at hk
    · rename_i r0 hr0
      rw [tvNf_eq] at hk
      obtain ⟨ρ, r, os, q1, q2, q3, q4, q5⟩ := hk
      obtain ⟨v, hv, hrel⟩ := resAll_ok hT h2 hr0
      have hMN : M1.length ≤ st2.loc.length := by rw [h2.r.h.len]; exact Nat.le_refl _
      refine ⟨h2.r.defers, v, hv, v, r, os, selM ρ M1, Z2, rfl, q5, fun r v hv => ?_, h2.z0, h2.z1, h2.r.h.sel h2.r.fz (Nat.le_refl _) (nodupB_ok q2) q4, tvLe_ok hMN hrel q3⟩
      have hv' := h2.e r v hv
      have hk : r.k < objs.length := by
        rw [← hh.len]
        unfold Mp.at at hv
        cases hkk : M[r.k]? with
        | none => rw [hkk] at hv; cases hv
        | some => exact (List.getElem?_eq_some_iff.1 hkk).1
      obtain ⟨s, e1, e2, e3⟩ := idB_ok q1 r.k hk
      rw [Nat.zero_add] at e3
      rw [show r = ⟨r.k, r.i⟩ from rfl, selM_at e1 e2, e3]
      rw [show (⟨r.k, r.i⟩ : Ref) = r from rfl, hv']
      rfl
    · exact hk.elim
  intro e a' w' hpost
  cases e with
  | normal => exact fin a' w' hpost
  | ret => exact fin a' w' hpost
  | exit id =>
    obtain ⟨_, _, _, _, h⟩ := hpost
    exact h.elim
  | goto => exact hpost.elim
  | panic => exact hpost.elim
  | outgrown => exact hpost.elim
end

/-! ## Moves of a proof -/
section
variable {P : Program} {tt : TT} {m : Nat} {st : St}
theorem ret_ {rs : List ResultVar} {K : TV → List AObj → Prop} (fs : List Frz) (h : frzsK fs st fun st => match resAll tt st rs with
    | some r0 => tvNf r0 fun r0 => RetAt m st r0 K
    | none => False) : RetVC tt m rs st K := ⟨fs, h⟩
theorem retAt_ {r0 : TV} {K : TV → List AObj → Prop} (ρ : List Sel) (r : TV) (os : List AObj) (h1 : idB m 0 ρ = true) (h2 : nodupB (keysOf ρ) = true) (h3 : tvLe ρ st.loc.length r0 r) (h4 : locLe ρ st.loc.length st.loc st.fz ρ os) (hk : K r os) : RetAt m st r0 K := ⟨ρ, r, os, h1, h2, h3, h4, hk⟩
/-- The end of a function that was handed no objects and gives none. -/
theorem retAt0 {r0 r : TV} {K : TV → List AObj → Prop} (hr : tvLe [] st.loc.length r0 r) (hk : K r []) : RetAt 0 st r0 K :=
  ⟨[], r, [], rfl, rfl, hr, trivial, hk⟩
theorem to_ {ι : Type} {J : ι → St} {p : ι → Prop} (fs : List Frz) (h : frzsK fs st fun st => ToAt m J p st) : ToVC m J p st := ⟨fs, h⟩
theorem toAt_ {ι : Type} {J : ι → St} {p : ι → Prop} (ρ : List Sel) (i : ι) (h1 : p i) (h2 : St.le m ρ st (J i)) : ToAt m J p st := ⟨ρ, i, h1, h2⟩
theorem loop_ {X : St → (Ex → St → Prop) → Prop} {Q : Ex → St → Prop} {ι : Type} (inv : ι → Prop) (J : ι → St) (μ : ι → Nat) (h0 : ToVC m J inv st) (h : ∀ i, inv i → X (J i) fun e st' => match e with
    | .normal => ToVC m J (fun i' => inv i' ∧ μ i' < μ i) st'
    | e => Q e st') : LoopVC m X st Q := ⟨ι, inv, J, μ, h0, h⟩
theorem cut_ {X : St → (Ex → St → Prop) → Prop} {Q : Ex → St → Prop} {Y : St → Prop} {ι : Type} (inv : ι → Prop) (J : ι → St) (h0 : X st (fun e st' => match e with
    | .normal => ToVC m J inv st'
    | e => Q e st')) (h : ∀ i, inv i → Y (J i)) : CutVC m X st Q Y := ⟨ι, inv, J, h0, h⟩
end
attribute [irreducible] ToVC ToAt LoopVC CutVC RetVC RetAt
end Go.Proofs.AY
/- AY, part N: type tables. -/
namespace Go.Proofs.AY
open Go Go.RowKit

def ttGet : List (Nat × TI) → Nat → Option TI
  | [], _ => none
  | (k, x) :: l, t => match Nat.beq k t with
    | true => some x
    | false => ttGet l t
def descOk (ti : TI) : TypeDesc → Bool
  | .slice e => ti.elem == e && ti.ik.isNone && !ti.str && !ti.bool
  | .int k => ti.elem == 0 && ti.ik == some k && !ti.str && !ti.bool
  | .string => ti.elem == 0 && ti.ik.isNone && ti.str && !ti.bool
  | .bool => ti.elem == 0 && ti.ik.isNone && !ti.str && ti.bool
  | .struct _ => false
  | .array _ _ => false
  | _ => ti.elem == 0 && ti.ik.isNone && !ti.str && !ti.bool
theorem tiOne {P : Program} {t : Nat} (ti : TI) (z : Value) (d : TypeDesc) (hd : P.underlying t = some d) (h1 : (P.info? t).map (fun i => (i.size, i.bytes, i.zero)) = some (1, ti.bytes, some z)) (hs : ti.size = 1) (hz : ti.zero = [z])
    (hzc : z.cells = #[z]) (hzo : z.oneCell' = true) (hag : ti.agg = false) (hk : descOk ti d = true) (hcm : ti.cmp = false := by rfl) : TIOk P t ti := by
  obtain ⟨i, hi, he⟩ := Option.map_eq_some_iff.1 h1
  simp only [Prod.mk.injEq] at he
  refine ⟨⟨i, z, hi, by rw [hs, he.1], he.2.1, he.2.2, by rw [hzc, hz], fun h => (by rw [hag] at h; cases h), fun _ => hzc⟩, ⟨d, hd, fun h => (by rw [hag] at h; cases h), fun _ => ?_⟩, fun h => ?_, fun k h => ?_, fun h => ?_, fun h => ?_, by rw [hs]; exact Nat.one_pos, by rw [hz, hs]; rfl, fun u hu => by rw [hz] at hu; simp at hu; rw [hu]; exact hzo, fun h => by rw [hcm] at h; cases h⟩
  · refine ⟨fun fs e => (by subst e; cases hk), fun n e h => by subst h; cases hk⟩
  · rw [hd]; cases d <;> simp_all [descOk]
  · rw [hd]; cases d <;> simp_all [descOk]
  · rw [hd]; cases d <;> simp_all [descOk]
  · rw [hd]; cases d <;> simp_all [descOk]
theorem tiAggC {P : Program} {t : Nat} (ti : TI) (z : Array Value) (fs : Array Field) (hd : P.underlying t = some (.struct fs)) (h1 : (P.info? t).map (fun i => (i.size, i.bytes, i.zero)) = some (ti.size, ti.bytes, some (.agg z))) (hz : ti.zero = z.toList)
    (hag : ti.agg = true) (ho : fs.toList.map (·.offset) = ti.offs) (hf : (fs.toList.map fun f => (P.info? f.type).map (·.size)) = ti.fsz.map some) (hf0 : ti.fsz.all (· != 0) = true) (he : ti.elem = 0) (hk : ti.ik = none) (hs : ti.str = false) (hb : ti.bool = false) (hp : (0 < ti.size) = True) (hzl : z.size = ti.size) (hzo : z.toList.all (·.oneCell') = true) (hcm : ti.cmp = true → CmpOk P t ti.size) : TIOk P t ti := by
  obtain ⟨i, hi, he'⟩ := Option.map_eq_some_iff.1 h1
  simp only [Prod.mk.injEq] at he'
  refine ⟨⟨i, .agg z, hi, he'.1, he'.2.1, he'.2.2, by rw [hz]; rfl, fun _ => rfl, fun h => (by rw [hag] at h; cases h)⟩, ⟨_, hd, fun _ => ⟨fs, rfl, ho, fun k f hfk => ?_⟩, fun h => (by rw [hag] at h; cases h)⟩, fun h => absurd he h, fun k h => (by rw [hk] at h; cases h), fun h => (by rw [hs] at h; cases h), fun h => (by rw [hb] at h; cases h), by rw [hp]; trivial, by rw [hz]; simpa using hzl, fun u hu => by rw [hz] at hu; exact List.all_eq_true.1 hzo u hu, hcm⟩
  have := congrArg (fun l => l[k]?) hf
  simp only [List.getElem?_map, hfk, Option.map_some] at this
  cases hq : ti.fsz[k]? with
  | none => rw [hq] at this; cases this
  | some q =>
    rw [hq] at this
    simp only [Option.map_some, Option.some.injEq] at this
    obtain ⟨j, hj, e⟩ := Option.map_eq_some_iff.1 this
    refine ⟨j, hj, by rw [e], ?_⟩
    have := List.all_eq_true.1 hf0 q (List.mem_of_getElem? hq)
    rw [e]; simpa using this
theorem tiAgg {P : Program} {t : Nat} (ti : TI) (z : Array Value) (fs : Array Field) (hd : P.underlying t = some (.struct fs)) (h1 : (P.info? t).map (fun i => (i.size, i.bytes, i.zero)) = some (ti.size, ti.bytes, some (.agg z))) (hz : ti.zero = z.toList)
    (hag : ti.agg = true) (ho : fs.toList.map (·.offset) = ti.offs) (hf : (fs.toList.map fun f => (P.info? f.type).map (·.size)) = ti.fsz.map some) (hf0 : ti.fsz.all (· != 0) = true) (he : ti.elem = 0) (hk : ti.ik = none) (hs : ti.str = false) (hb : ti.bool = false) (hp : (0 < ti.size) = True) (hzl : z.size = ti.size) (hzo : z.toList.all (·.oneCell') = true) (hcm : ti.cmp = false := by rfl) : TIOk P t ti :=
  tiAggC ti z fs hd h1 hz hag ho hf hf0 he hk hs hb hp hzl hzo (fun h => by rw [hcm] at h; cases h)
/-- A table, entry by entry. -/
def TabOk (P : Program) : List (Nat × TI) → Prop
  | [] => True
  | (k, ti) :: l => TIOk P k ti ∧ TabOk P l
theorem TabOk.ok {P : Program} : ∀ {l : List (Nat × TI)}, TabOk P l → TOk P (ttGet l)
  | [], _, t, ti, h => by cases h
  | (k, x) :: l, hl, t, ti, h => by
    simp only [ttGet] at h
    split at h
    · rename_i e
      cases h
      rw [← Nat.eq_of_beq_eq_true e]
      exact hl.1
    · exact TabOk.ok hl.2 t ti h


def bodyOf (fn : Func) : Code := match fn.body with
  | some c => c
  | none => .skip
theorem body_ok {fn : Func} (h : fn.body.isSome = true) : fn.body = some (bodyOf fn) := by
  unfold bodyOf
  cases hb : fn.body with
  | none => rw [hb] at h; cases h
  | some c => rfl
def lenLe {α : Type} : List α → Nat → Bool
  | [], _ => true
  | _ :: _, 0 => false
  | _ :: l, n + 1 => lenLe l n
theorem lenLe_ok {α : Type} : ∀ {l : List α} {n : Nat}, lenLe l n = true → l.length ≤ n
  | [], _, _ => Nat.zero_le _
  | _ :: _, 0, h => by cases h
  | _ :: l, n + 1, h => Nat.succ_le_succ (lenLe_ok (l := l) h)
/-- A function's contract. -/
theorem fn_ {P : Program} {tt : TT} {D : Plans} (cuts : List Nat) (hT : TOk P tt) (hmo : P.follows .mixedOrders = true) {g : Nat} {fn : Func} (hf : P.funcs[g]? = some fn) (hb : fn.body.isSome = true) (hnm : (fn.name == "runtime.NumGoroutine") = false) (hp : plansOk D (bodyOf fn) = true)
    {args : List TV} {objs : List AObj} {K : TV → List AObj → Prop} (hl : lenLe args fn.ntmps = true)
    (h : awp P tt D cuts objs.length (bodyOf fn) ⟨fn.ntmps, argTm 0 args, objs, []⟩ (endQ tt objs.length fn.results.toList K)) : CallOK P g args objs K :=
  callOK_of hT hmo hf (body_ok hb) hnm hp (lenLe_ok hl) h

/-- Each element tells of some a: so there is a list of them. -/
theorem elems_ {α : Type} [Inhabited α] {ρ : List Sel} {N n : Nat} {f : Nat → List CV} (enc : α → List CV) (h : ∀ j, j < n → ∃ a, cvsLe ρ N (f j) (enc a)) : ∃ e : Nat → α, ∀ j, j < n → cvsLe ρ N (f j) (enc (e j)) := by
  classical
  refine ⟨fun j => if hj : j < n then (h j hj).choose else default, fun j hj => ?_⟩
  simp only [hj, dif_pos]
  exact (h j hj).choose_spec
end Go.Proofs.AY
/- AY, part O: what the program's values are as data, and how they lie in cells. -/
namespace Go.Proofs.AY
open Go

structure Deed where
  kind : Int
  a : Int
  b : Int
  deriving Inhabited, DecidableEq
structure DAct where
  kind : Int
  deeds : List Deed
  kids : List Int
  reg : Int
  deriving Inhabited, DecidableEq
structure DProg where
  cells : List Int
  bodies : List (List DAct)
  deriving Inhabited, DecidableEq
structure Put where
  cell : Int
  num : Int
  deriving Inhabited, DecidableEq
structure DCell where
  num : Int
  time : Int
  lock : Int
  deriving Inhabited, DecidableEq
structure Task where
  body : Int
  pc : Int
  up : Int
  regs : List Int
  way : Int
  stage : Int
  at_ : Int
  since : Int
  old : List Int
  reads : List Put
  puts : List Put
  when : Int
  frm : Int
  deriving Inhabited, DecidableEq
structure Entry where
  task : Int
  act : Int
  when : Int
  reads : List Put
  puts : List Put
  frm : Int
  deriving Inhabited, DecidableEq
structure DSys where
  cells : List DCell
  tasks : List Task
  clock : Int
  log : List Entry
  deriving Inhabited, DecidableEq

abbrev int (x : Int) : TV := .c (.v (.int .i64 x))
abbrev bl (x : Bool) : TV := .c (.v (.bool x))
abbrev str (x : ByteArray) : TV := .c (.v (.string x))
abbrev ptr (k : Nat) : TV := .c (.p ⟨k, 0⟩ 0)
abbrev iv (x : Int) : CV := .v (.int .i64 x)
/-- A list that is only read. -/
abbrev dl {α : Type} [Inhabited α] (sz : Nat) (enc : α → List CV) (l : List α) : CV := .d sz l.length (fun i => enc (l.getD i default))
abbrev lst {α : Type} [Inhabited α] (sz : Nat) (enc : α → List CV) (l : List α) : TV := .c (dl sz enc l)
/-- A list of the frame's own. -/
abbrev rl {α : Type} [Inhabited α] (t : TypeId) (sz : Nat) (enc : α → List CV) (l : List α) : AObj := .row t sz l.length (fun i => enc (l.getD i default))
abbrev eI (x : Int) : List CV := [iv x]
abbrev eB (x : Int) : List CV := [.v (.int .u8 x)]
abbrev eDeed (d : Deed) : List CV := [iv d.kind, iv d.a, iv d.b]
abbrev eAct (a : DAct) : List CV := [iv a.kind, dl 3 eDeed a.deeds, dl 1 eI a.kids, iv a.reg]
abbrev eBody (b : List DAct) : List CV := [dl 4 eAct b]
abbrev eProg (p : DProg) : List CV := [dl 1 eI p.cells, dl 1 eBody p.bodies]
abbrev ePut (p : Put) : List CV := [iv p.cell, iv p.num]
abbrev eCell (c : DCell) : List CV := [iv c.num, iv c.time, iv c.lock]
abbrev eTask (t : Task) : List CV := [iv t.body, iv t.pc, iv t.up, dl 1 eI t.regs, iv t.way, iv t.stage, iv t.at_, iv t.since, dl 1 eI t.old, dl 2 ePut t.reads, dl 2 ePut t.puts, iv t.when, iv t.frm]
abbrev eEntry (e : Entry) : List CV := [iv e.task, iv e.act, iv e.when, dl 2 ePut e.reads, dl 2 ePut e.puts, iv e.frm]
abbrev eSys (s : DSys) : List CV := [dl 3 eCell s.cells, dl 13 eTask s.tasks, iv s.clock, dl 6 eEntry s.log]

/-! ## Lists -/
section
variable {α : Type} [Inhabited α]
theorem getD_snoc (l : List α) (x : α) (j : Nat) (d : α) : (l ++ [x]).getD j d = if j < l.length then l.getD j d else if j = l.length then x else d := by
  simp only [List.getD_eq_getElem?_getD]
  rcases Nat.lt_trichotomy j l.length with h | h | h
  · rw [List.getElem?_append_left h, if_pos h]
  · subst h; simp
  · rw [List.getElem?_eq_none (by simp; omega), if_neg (by omega), if_neg (by omega)]; rfl
theorem getD_app (l m : List α) (j : Nat) (d : α) : (l ++ m).getD j d = if j < l.length then l.getD j d else m.getD (j - l.length) d := by
  simp only [List.getD_eq_getElem?_getD]
  by_cases h : j < l.length
  · rw [List.getElem?_append_left h, if_pos h]
  · rw [List.getElem?_append_right (by omega), if_neg h]
theorem getD_set (l : List α) (i : Nat) (x : α) (j : Nat) (d : α) (hj : j < l.length) : (l.set i x).getD j d = if j = i then x else l.getD j d := by
  simp only [List.getD_eq_getElem?_getD, List.getElem?_set]
  by_cases h : i = j
  · subst h; simp [hj]
  · rw [if_neg h, if_neg (fun e => h e.symm)]
theorem getD_take {l : List α} {n i : Nat} {d : α} (h : i < (l.take n).length) : (l.take n).getD i d = l.getD i d := by
  simp only [List.length_take] at h
  simp only [List.getD_eq_getElem?_getD]
  rw [List.getElem?_take, if_pos (by omega)]
theorem getD_drop {l : List α} {n i : Nat} {d : α} : (l.drop n).getD i d = l.getD (n + i) d := by
  simp only [List.getD_eq_getElem?_getD, List.getElem?_drop]
theorem getD_mem {l : List α} {j : Nat} (d : α) (h : j < l.length) : l.getD j d ∈ l := by
  rw [List.getD_eq_getElem?_getD, List.getElem?_eq_getElem h]; simp
theorem mem_getD {l : List α} {x : α} (d : α) (h : x ∈ l) : ∃ j, j < l.length ∧ l.getD j d = x := by
  obtain ⟨j, hj, rfl⟩ := List.getElem_of_mem h
  exact ⟨j, hj, by rw [List.getD_eq_getElem?_getD, List.getElem?_eq_getElem hj]; rfl⟩
theorem all_of {l : List α} {p : α → Bool} (h : ∀ j, j < l.length → p (l.getD j default) = true) : l.all p = true :=
  List.all_eq_true.2 fun x hx => by obtain ⟨j, hj, rfl⟩ := mem_getD default hx; exact h j hj
theorem not_all {l : List α} {p : α → Bool} {j : Nat} (hj : j < l.length) (h : p (l.getD j default) = false) : l.all p = false := by
  cases e : l.all p with
  | false => rfl
  | true => have := List.all_eq_true.1 e _ (getD_mem default hj); rw [h] at this; cases this
theorem all_at {l : List α} {p : α → Bool} (h : l.all p = true) {j : Nat} (hj : j < l.length) : p (l.getD j default) = true := List.all_eq_true.1 h _ (getD_mem default hj)
/-- As long as the first k are. -/
def upTo (p : Nat → Bool) (k : Nat) : Prop := ∀ j, j < k → p j = true
theorem upTo_zero (p : Nat → Bool) : upTo p 0 := fun j h => absurd h (Nat.not_lt_zero _)
theorem upTo_succ {p : Nat → Bool} {k : Nat} (h : upTo p k) (hk : p k = true) : upTo p (k + 1) := fun j hj => by
  rcases Nat.lt_succ_iff_lt_or_eq.1 hj with h1 | h1
  · exact h j h1
  · rw [h1]; exact hk
theorem take_snoc (l : List α) (i : Nat) (h : i < l.length) : l.take (i + 1) = l.take i ++ [l.getD i default] := by
  rw [List.take_succ_eq_append_getElem h, List.getD_eq_getElem?_getD, List.getElem?_eq_getElem h]; rfl
/-- All numbers below n. -/
def allTo (p : Nat → Bool) (n : Nat) : Bool := (List.range n).all p
theorem allTo_of {p : Nat → Bool} {n : Nat} (h : upTo p n) : allTo p n = true := List.all_eq_true.2 fun x hx => h x (List.mem_range.1 hx)
theorem allTo_not {p : Nat → Bool} {n j : Nat} (hj : j < n) (h : p j = false) : allTo p n = false := by
  cases e : allTo p n with
  | false => rfl
  | true => have := List.all_eq_true.1 e j (List.mem_range.2 hj); rw [h] at this; cases this
theorem allTo_at {p : Nat → Bool} {n j : Nat} (h : allTo p n = true) (hj : j < n) : p j = true := List.all_eq_true.1 h j (List.mem_range.2 hj)
end
end Go.Proofs.AY
namespace Go.Proofs.AY
open Go
section
variable {α : Type} [Inhabited α] {ρ : List Sel} {N : Nat} {fz : List (Nat × CV)}
theorem leI {x : TV} {a b : Int} (h : a = b) (hx : x = int a) : tvLe ρ N x (int b) := by subst hx; subst h; exact rfl
/-- A row with one element more. -/
theorem snocLe {enc : α → List CV} {l : List α} {x : α} {m : Nat} {F g : Nat → List CV} (hm : l.length = m) (h1 : ∀ j, j < m → cvsLe ρ N (resL fz (F j)) (enc (l.getD j default))) (h2 : ∀ j, cvsLe ρ N (resL fz (g j)) (enc x)) :
    ∀ j, j < m + 1 → cvsLe ρ N (resL fz (if j < m then F j else g (j - m))) (enc ((l ++ [x]).getD j default)) := by
  intro j hj
  rw [getD_snoc, hm]
  by_cases h : j < m
  · simp only [if_pos h]; exact h1 j h
  · simp only [if_neg h]; rw [if_pos (by omega)]; exact h2 _
/-- A row with one element written, where what an element is depends on its place. -/
theorem setLeJ (enc : Nat → α → List CV) {F : Nat → List CV} {l : List α} {x : α} {i m : Nat} {g : List CV} (hm : l.length = m) (h1 : ∀ j, j < m → j ≠ i → cvsLe ρ N (resL fz (F j)) (enc j (l.getD j default))) (h2 : cvsLe ρ N (resL fz g) (enc i x)) :
    ∀ j, j < m → cvsLe ρ N (resL fz (if j = i then g else F j)) (enc j ((l.set i x).getD j default)) := by
  intro j hj
  rw [getD_set _ _ _ _ _ (by omega)]
  by_cases h : j = i
  · simp only [if_pos h]; rw [h]; exact h2
  · simp only [if_neg h]; exact h1 j hj h
theorem iteSelf {β γ : Type} (a : β) [Decidable (a = a)] (x y : γ) : (if a = a then x else y) = x := if_pos rfl
/-- The same, when it is frozen. -/
theorem snocIm {enc : α → List CV} {l : List α} {x : α} {m : Nat} {F g : Nat → List CV} (hm : l.length = m) (h1 : ∀ j, j < m → imsLe (resL fz (F j)) (enc (l.getD j default))) (h2 : ∀ j, imsLe (resL fz (g j)) (enc x)) :
    ∀ j, j < m + 1 → imsLe (resL fz (if j < m then F j else g (j - m))) (enc ((l ++ [x]).getD j default)) := by
  intro j hj
  rw [getD_snoc, hm]
  by_cases h : j < m
  · simp only [if_pos h]; exact h1 j h
  · simp only [if_neg h]; rw [if_pos (by omega)]; exact h2 _
theorem snocImm {m n : Nat} {F g : Nat → List CV} (h1 : ∀ j, j < m → (resL fz (F j)).all CV.immB = true) (h2 : ∀ j, (resL fz (g j)).all CV.immB = true) :
    ∀ j, j < n → (resL fz (if j < m then F j else g (j - m))).all CV.immB = true := by
  intro j hj
  by_cases h : j < m
  · simp only [if_pos h]; exact h1 j h
  · simp only [if_neg h]; exact h2 _
/-- A row with one element written. -/
theorem setLe {enc enc' : α → List CV} {l : List α} {x : α} {i m : Nat} {g : List CV} (hm : l.length = m) (h1 : ∀ j, j < m → cvsLe ρ N (resL fz (enc' (l.getD j default))) (enc (l.getD j default))) (h2 : cvsLe ρ N (resL fz g) (enc x)) :
    ∀ j, j < m → cvsLe ρ N (resL fz (if j = i then g else enc' (l.getD j default))) (enc ((l.set i x).getD j default)) := by
  intro j hj
  rw [getD_set _ _ _ _ _ (by omega)]
  by_cases h : j = i
  · simp only [if_pos h]; exact h2
  · simp only [if_neg h]; exact h1 j hj
/-- The same, frozen. -/
theorem snocEq {enc : α → List CV} {l : List α} {x : α} {m : Nat} {g : Nat → List CV} (hm : l.length = m) (h2 : ∀ j, resL fz (g j) = enc x) (h1 : ∀ j, j < m → resL fz (enc (l.getD j default)) = enc (l.getD j default)) :
    ∀ j, j < (l ++ [x]).length → resL fz (if j < m then enc (l.getD j default) else g (j - m)) = enc ((l ++ [x]).getD j default) := by
  intro j hj
  rw [getD_snoc, hm]
  simp only [List.length_append, List.length_singleton, hm] at hj
  by_cases h : j < m
  · simp only [if_pos h]; exact h1 j h
  · simp only [if_neg h]; rw [if_pos (by omega)]; exact h2 _
end
end Go.Proofs.AY
/- AY, part W: plain words: which programs are ok. -/
namespace Go.Proofs.AY
open Go

def sumL : List Int → Int
  | [] => 0
  | x :: l => x + sumL l
theorem sumL_append (l m : List Int) : sumL (l ++ m) = sumL l + sumL m := by
  induction l with
  | nil => simp [sumL]
  | cons x l ih => simp only [List.cons_append, sumL, ih]; omega
theorem sumL_bound (l : List Int) (B : Int) (h : ∀ x ∈ l, 0 ≤ x ∧ x ≤ B) : 0 ≤ sumL l ∧ sumL l ≤ l.length * B := by
  induction l with
  | nil => simp [sumL]
  | cons x l ih =>
    have h1 := h x List.mem_cons_self
    have h2 := ih fun y hy => h y (List.mem_cons_of_mem _ hy)
    simp only [sumL, List.length_cons]
    have e : ((l.length + 1 : Nat) : Int) * B = l.length * B + B := by push_cast; rw [Int.add_mul]; omega
    omega

abbrev deedP (d : Deed) (n : Int) : Prop :=
  (d.kind = 1 ∧ 0 ≤ d.a ∧ d.a ≤ 2 ∧ 0 ≤ d.b ∧ d.b ≤ n - 1) ∨ (d.kind = 2 ∧ 0 ≤ d.a ∧ d.a ≤ n - 1 ∧ 0 ≤ d.b ∧ d.b ≤ 2) ∨
  (d.kind = 3 ∧ 0 ≤ d.a ∧ d.a ≤ 2 ∧ 0 ≤ d.b ∧ d.b ≤ 99) ∨ (d.kind = 4 ∧ 0 ≤ d.a ∧ d.a ≤ 2 ∧ 0 ≤ d.b ∧ d.b ≤ 2) ∨ (d.kind = 5 ∧ 0 ≤ d.a ∧ d.a ≤ 2 ∧ d.b = 0)
def deedOk (d : Deed) (n : Int) : Bool := decide (deedP d n)
def kidOk (body bodies : Int) (k : Int) : Bool := decide (body + 1 ≤ k ∧ k ≤ bodies - 1)
def kidsOk (kids : List Int) (body bodies : Int) : Bool := kids.all (kidOk body bodies) && decide ((1 : Int) ≤ kids.length ∧ (kids.length : Int) ≤ 2)
def actOk (p : DProg) (body : Int) (a : DAct) : Bool :=
  if (a.kind ≠ 1 ∧ 0 < (a.deeds.length : Int)) ∨ (a.kind ≠ 2 ∧ 0 < (a.kids.length : Int)) ∨ (a.kind ≠ 4 ∧ a.reg ≠ 0) then false
  else if a.kind = 1 then a.deeds.all (deedOk · p.cells.length) && decide ((a.deeds.length : Int) ≤ 5)
  else if a.kind = 2 then kidsOk a.kids body p.bodies.length
  else if a.kind = 3 then true
  else if a.kind = 4 then decide (0 ≤ a.reg ∧ a.reg ≤ 2) else false
def numOk (c : Int) : Bool := decide (0 ≤ c ∧ c ≤ 99)
def bodyOk (p : DProg) (i : Nat) : Bool := decide (((p.bodies.getD i default).length : Int) ≤ 4) && (p.bodies.getD i default).all (actOk p i)
def formOk (p : DProg) : Bool :=
  decide ((p.cells.length : Int) ≤ 3 ∧ (1 : Int) ≤ p.bodies.length ∧ (p.bodies.length : Int) ≤ 4) && (p.cells.all numOk && allTo (bodyOk p) p.bodies.length)
/-- How many tasks a body may be; f: how deep is looked at most. -/
def treeF : Nat → DProg → Nat → Int
  | 0, _, _ => 0
  | f + 1, p, b => 1 + sumL ((p.bodies.getD b default).map fun a => sumL (a.kids.map fun k => treeF f p k.toNat))
def progOk (p : DProg) : Bool := formOk p && decide (treeF 4 p 0 ≤ 7)

theorem formOk_len {p : DProg} (h : formOk p = true) : p.cells.length ≤ 3 ∧ 1 ≤ p.bodies.length ∧ p.bodies.length ≤ 4 := by
  unfold formOk at h
  simp only [Bool.and_eq_true, decide_eq_true_eq] at h
  omega
theorem formOk_body {p : DProg} (h : formOk p = true) {i : Nat} (hi : i < p.bodies.length) : (p.bodies.getD i default).length ≤ 4 ∧ ∀ k, k < (p.bodies.getD i default).length → actOk p i ((p.bodies.getD i default).getD k default) = true := by
  unfold formOk at h
  simp only [Bool.and_eq_true] at h
  have hb := allTo_at h.2.2 hi
  unfold bodyOk at hb
  simp only [Bool.and_eq_true, decide_eq_true_eq] at hb
  exact ⟨by omega, fun k hk => all_at hb.2 hk⟩
theorem actOk_kids {p : DProg} {b : Int} {a : DAct} (h : actOk p b a = true) : a.kids.length ≤ 2 ∧ ∀ k, k < a.kids.length → b + 1 ≤ a.kids.getD k default ∧ a.kids.getD k default ≤ p.bodies.length - 1 := by
  unfold actOk at h
  split at h
  · cases h
  · rename_i hn
    by_cases h2 : a.kind = 2
    · rw [if_neg (by omega), if_pos h2] at h
      unfold kidsOk at h
      simp only [Bool.and_eq_true, decide_eq_true_eq] at h
      refine ⟨by omega, fun k hk => ?_⟩
      have := all_at h.1 hk
      simpa [kidOk] using this
    · have : a.kids.length = 0 := by omega
      exact ⟨by omega, fun k hk => by omega⟩
theorem treeF_bound {p : DProg} (h : formOk p = true) : ∀ (f b : Nat), b < p.bodies.length → 0 ≤ treeF f p b ∧ treeF f p b ≤ 9 ^ f
  | 0, b, _ => by simp [treeF]
  | f + 1, b, hb => by
    obtain ⟨h1, h2⟩ := formOk_body h hb
    have key : ∀ x ∈ (p.bodies.getD b default).map fun a => sumL (a.kids.map fun k => treeF f p k.toNat), 0 ≤ x ∧ x ≤ 2 * 9 ^ f := by
      intro x hx
      obtain ⟨a, ha, rfl⟩ := List.mem_map.1 hx
      obtain ⟨j, hj, rfl⟩ := mem_getD default ha
      obtain ⟨k1, k2⟩ := actOk_kids (h2 j hj)
      have := sumL_bound (((p.bodies.getD b default).getD j default).kids.map fun k => treeF f p k.toNat) (9 ^ f) (by
        intro y hy
        obtain ⟨k, hk, rfl⟩ := List.mem_map.1 hy
        obtain ⟨i, hi, rfl⟩ := mem_getD default hk
        have := k2 i hi
        exact treeF_bound h f _ (by omega))
      refine ⟨this.1, Int.le_trans this.2 ?_⟩
      rw [List.length_map]
      have hp : (0 : Int) ≤ 9 ^ f := Int.pow_nonneg (by omega)
      exact Int.mul_le_mul_of_nonneg_right (by omega) hp
    have := sumL_bound _ _ key
    rw [List.length_map] at this
    have hp : (0 : Int) < 9 ^ f := Int.pow_pos (by omega)
    have hm : ((p.bodies.getD b default).length : Int) * (2 * 9 ^ f) ≤ 4 * (2 * 9 ^ f) := Int.mul_le_mul_of_nonneg_right (by omega) (by omega)
    simp only [treeF, Int.pow_succ]
    omega
end Go.Proofs.AY
namespace Go.Proofs.AY
open Go
def newTask (body up : Int) : Task := ⟨body, 0, up, [0, 0, 0], 0, 0, 0, 0, [0, 0, 0], [], [], 0, 0⟩
def newCell (n : Int) : DCell := ⟨n, 0, -1⟩
def sysNew (p : DProg) : DSys := ⟨p.cells.map newCell, [newTask 0 (-1)], 0, []⟩
end Go.Proofs.AY
/- AY, part X: plain words: which systems are ok. -/
namespace Go.Proofs.AY
open Go

abbrev eW (p : DProg) (s : DSys) : List CV := [dl 1 eI p.cells, dl 1 eBody p.bodies, dl 3 eCell s.cells, dl 13 eTask s.tasks, iv s.clock, dl 6 eEntry s.log]
def numsOk (l : List Int) (n : Int) : Bool := l.all numOk && decide ((l.length : Int) = n)
abbrev putP (l : List Put) (cells : Int) (i : Nat) : Prop :=
  0 ≤ (l.getD i default).cell ∧ (l.getD i default).cell ≤ cells - 1 ∧ 0 ≤ (l.getD i default).num ∧ (l.getD i default).num ≤ 99 ∧ (0 < i → (l.getD (i - 1) default).cell < (l.getD i default).cell)
def putOk (l : List Put) (cells : Int) (i : Nat) : Bool := decide (putP l cells i)
def listOk (l : List Put) (cells : Int) : Bool := allTo (putOk l cells) l.length
/-- Where a cell is in a list of such; -1 if it is not. -/
def findP (l : List Put) (c : Int) : Int := if l.findIdx (fun x => x.cell == c) < l.length then ((l.findIdx (fun x => x.cell == c) : Nat) : Int) else -1
theorem findP_at {l : List Put} {c : Int} {i : Nat} (hi : i < l.length) (h : (l.getD i default).cell = c) (hn : ∀ j, j < i → (l.getD j default).cell ≠ c) : findP l c = i := by
  have e : l.findIdx (fun x => x.cell == c) = i := by
    rw [List.findIdx_eq hi]
    constructor
    · have : l[i] = l.getD i default := by rw [List.getD_eq_getElem?_getD, List.getElem?_eq_getElem hi]; rfl
      rw [this]; simpa using h
    · intro j hj
      have : l[j] = l.getD j default := by rw [List.getD_eq_getElem?_getD, List.getElem?_eq_getElem (by omega)]; rfl
      rw [this]
      simpa using hn j hj
  unfold findP
  rw [e, if_pos hi]
theorem findP_none {l : List Put} {c : Int} (hn : ∀ j, j < l.length → (l.getD j default).cell ≠ c) : findP l c = -1 := by
  unfold findP
  rw [if_neg]
  intro h
  have := List.findIdx_getElem (w := h)
  have h2 : l[l.findIdx (fun x => x.cell == c)] = l.getD (l.findIdx (fun x => x.cell == c)) default := by rw [List.getD_eq_getElem?_getD, List.getElem?_eq_getElem h]; rfl
  rw [h2] at this
  exact hn _ h (by simpa using this)
/-- How many of a task's stand in a way. -/
def kidsN (ts : List Task) (task way : Int) : Int := ((ts.filter fun t => decide (t.up = task ∧ t.way = way)).length : Int)
theorem kidsN_snoc (ts : List Task) (t : Task) (task way : Int) : kidsN (ts ++ [t]) task way = kidsN ts task way + if t.up = task ∧ t.way = way then 1 else 0 := by
  unfold kidsN
  rw [List.filter_append]
  by_cases h : t.up = task ∧ t.way = way <;> simp [h]
theorem kidsN_bound (ts : List Task) (task way : Int) : 0 ≤ kidsN ts task way ∧ kidsN ts task way ≤ ts.length := by
  unfold kidsN
  have := List.length_filter_le (fun t : Task => decide (t.up = task ∧ t.way = way)) ts
  omega

abbrev atP (t : Task) (deeds : Int) : Prop :=
  (t.stage = 0 ∧ t.at_ = 0 ∧ (t.reads.length : Int) + t.puts.length = 0) ∨ (t.stage = 1 ∧ 0 ≤ t.at_ ∧ t.at_ ≤ deeds) ∨ (t.stage = 3 ∧ t.at_ = 0 ∧ 0 < (t.puts.length : Int)) ∨
  (t.stage = 4 ∧ 0 ≤ t.at_ ∧ t.at_ ≤ t.reads.length ∧ 0 < (t.puts.length : Int)) ∨ (t.stage ≠ 0 ∧ t.stage ≠ 1 ∧ t.stage ≠ 3 ∧ t.stage ≠ 4 ∧ 0 ≤ t.at_ ∧ t.at_ ≤ t.puts.length - 1)
def atOk (t : Task) (deeds : Int) : Bool := decide (atP t deeds)
abbrev timesP (t : Task) (s : DSys) : Prop :=
  (0 ≤ t.since ∧ t.since ≤ s.clock) ∧ (0 ≤ t.frm ∧ t.frm ≤ s.log.length) ∧
  ((t.stage = 0 ∧ 0 ≤ t.when ∧ t.when ≤ s.clock + 1) ∨ ((t.stage = 4 ∨ t.stage = 5) ∧ t.since + 1 ≤ t.when ∧ t.when ≤ s.clock) ∨ (t.stage ≠ 0 ∧ t.stage ≠ 4 ∧ t.stage ≠ 5 ∧ t.when = 0))
def timesOk (t : Task) (s : DSys) : Bool := decide (timesP t s)
abbrev upP (s : DSys) (i : Int) (t : Task) : Prop :=
  (i = 0 ∧ t.up = -1) ∨ (i ≠ 0 ∧ (0 ≤ t.up ∧ t.up ≤ i - 1) ∧ (¬ (t.way = 0 ∨ t.way = 1) ∨ (s.tasks.getD t.up.toNat default).way = 1))
def upOk (s : DSys) (i : Int) : Bool := decide (upP s i (s.tasks.getD i.toNat default))
/-- The acts of a body. -/
abbrev actsOf (p : DProg) (b : Int) : List DAct := p.bodies.getD b.toNat default
abbrev actAt (p : DProg) (t : Task) : DAct := (actsOf p t.body).getD t.pc.toNat default
def actStands (p : DProg) (s : DSys) (i : Int) (t : Task) : Bool :=
  if t.way = 0 then decide (t.stage = 0) || (decide (t.pc < (actsOf p t.body).length ∧ (actAt p t).kind = 1) && atOk t (actAt p t).deeds.length)
  else if t.way = 1 then decide (t.pc < (actsOf p t.body).length ∧ (actAt p t).kind = 2) && decide ((actAt p t).kids.length ≤ kidsN s.tasks i 0 + kidsN s.tasks i 1 + kidsN s.tasks i 2 + kidsN s.tasks i 3)
  else if t.way = 2 then decide (t.pc = (actsOf p t.body).length) else true
abbrev taskP1 (p : DProg) (t : Task) : Prop := (0 ≤ t.body ∧ t.body ≤ p.bodies.length - 1) ∧ (0 ≤ t.pc ∧ t.pc ≤ (actsOf p t.body).length) ∧ (0 ≤ t.way ∧ t.way ≤ 4) ∧ (0 ≤ t.stage ∧ t.stage ≤ 5)
abbrev taskP2 (t : Task) : Prop := t.stage ≠ 0 ∨ (t.at_ = 0 ∧ (t.reads.length : Int) + t.puts.length = 0)
def taskOk (p : DProg) (s : DSys) (i : Int) (t : Task) : Bool :=
  decide (taskP1 p t) && (!decide (t.way ≠ 0 ∧ t.stage ≠ 0) && (numsOk t.regs 3 && (numsOk t.old 3 && (listOk t.reads s.cells.length && (listOk t.puts s.cells.length && (decide (taskP2 t) && (timesOk t s && (upOk s i && actStands p s i t))))))))
def holdsB (t : Task) (cell : Int) : Bool :=
  decide (0 ≤ findP t.puts cell) && decide ((t.stage = 2 ∧ findP t.puts cell < t.at_) ∨ (t.stage = 3 ∨ t.stage = 4) ∨ (t.stage = 5 ∧ t.at_ ≤ findP t.puts cell))
def cellP (s : DSys) (c : DCell) : Bool := decide ((0 ≤ c.num ∧ c.num ≤ 99) ∧ (0 ≤ c.time ∧ c.time ≤ s.clock) ∧ (-1 ≤ c.lock ∧ c.lock ≤ s.tasks.length - 1))
def holdOk (s : DSys) (i : Nat) (k : Nat) : Bool := holdsB (s.tasks.getD k default) i == decide ((s.cells.getD i default).lock = k)
def cellOk (s : DSys) (i : Nat) : Bool := cellP s (s.cells.getD i default) && allTo (holdOk s i) s.tasks.length
def cellsOk (s : DSys) : Bool := allTo (cellOk s) s.cells.length
def entryOk (p : DProg) (s : DSys) (i : Nat) : Bool :=
  decide ((0 ≤ (s.log.getD i default).task ∧ (s.log.getD i default).task ≤ s.tasks.length - 1) ∧ (0 ≤ (s.log.getD i default).when ∧ (s.log.getD i default).when ≤ s.clock) ∧ (0 ≤ (s.log.getD i default).frm ∧ (s.log.getD i default).frm ≤ i)) &&
  (listOk (s.log.getD i default).reads s.cells.length && (listOk (s.log.getD i default).puts s.cells.length &&
    decide (0 ≤ (s.log.getD i default).act ∧ (s.log.getD i default).act ≤ (actsOf p (s.tasks.getD (s.log.getD i default).task.toNat default).body).length - 1)))
def logOk (p : DProg) (s : DSys) : Bool := allTo (entryOk p s) s.log.length
def sysOk (p : DProg) (s : DSys) : Bool :=
  progOk p && (decide ((s.cells.length : Int) = p.cells.length ∧ ((1 : Int) ≤ s.tasks.length ∧ (s.tasks.length : Int) ≤ 7) ∧ (0 ≤ s.clock ∧ s.clock ≤ 200)) &&
    (allTo (fun i => taskOk p s i (s.tasks.getD i default)) s.tasks.length && (cellsOk s && logOk p s)))
end Go.Proofs.AY
namespace Go.Proofs.AY
open Go
theorem listOk_at {l : List Put} {n : Int} (h : listOk l n = true) {i : Nat} (hi : i < l.length) : putP l n i := by
  have := allTo_at h hi
  exact of_decide_eq_true this
theorem listOk_ge {l : List Put} {n : Int} (h : listOk l n = true) : ∀ i, i < l.length → (i : Int) ≤ (l.getD i default).cell
  | 0, hi => (listOk_at h hi).1
  | i + 1, hi => by
    have h1 := listOk_ge h i (by omega)
    have h2 := (listOk_at h hi).2.2.2.2 (by omega)
    simp only [Nat.add_sub_cancel] at h2
    omega
theorem listOk_len {l : List Put} {n : Int} (h : listOk l n = true) (hn : 0 ≤ n) : (l.length : Int) ≤ n := by
  by_cases h0 : l.length = 0
  · omega
  · have h1 := listOk_ge h (l.length - 1) (by omega)
    have h2 := (listOk_at h (i := l.length - 1) (by omega)).2.1
    omega
end Go.Proofs.AY
namespace Go.Proofs.AY
open Go
theorem taskOk_p1 {p : DProg} {s : DSys} {i : Int} {t : Task} (h : taskOk p s i t = true) : taskP1 p t := by
  unfold taskOk at h
  rw [Bool.and_eq_true] at h
  exact of_decide_eq_true h.1
end Go.Proofs.AY
namespace Go.Proofs.AY
open Go
/-- One step of putting a cell's number in a list. -/
def addS (x : Put) (od : List Put × Bool) (y : Put) : List Put × Bool :=
  let od1 := if od.2 = false ∧ x.cell ≤ y.cell then (od.1 ++ [x], true) else od
  if y.cell ≠ x.cell then (od1.1 ++ [y], od1.2) else od1
def addP (l : List Put) (x : Put) : List Put :=
  let od := l.foldl (addS x) ([], false)
  if od.2 then od.1 else od.1 ++ [x]
end Go.Proofs.AY
namespace Go.Proofs.AY
open Go
theorem addS_1 {x y : Put} {o : List Put} (h : x.cell ≤ y.cell) (h' : y.cell ≠ x.cell) : addS x (o, false) y = (o ++ [x] ++ [y], true) := by simp [addS, h, h']
theorem addS_2 {x y : Put} {o : List Put} (h : x.cell ≤ y.cell) (h' : ¬ y.cell ≠ x.cell) : addS x (o, false) y = (o ++ [x], true) := by
  have : y.cell = x.cell := by omega
  simp [addS, this]
theorem addS_3 {x y : Put} {o : List Put} (h : ¬ x.cell ≤ y.cell) : addS x (o, false) y = (o ++ [y], false) := by
  have : y.cell ≠ x.cell := by omega
  simp [addS, h, this]
theorem addS_4 {x y : Put} {o : List Put} (h' : y.cell ≠ x.cell) : addS x (o, true) y = (o ++ [y], true) := by simp [addS, h']
theorem addS_5 {x y : Put} {o : List Put} (h' : ¬ y.cell ≠ x.cell) : addS x (o, true) y = (o, true) := by
  have : y.cell = x.cell := by omega
  simp [addS, this]
end Go.Proofs.AY
namespace Go.Proofs.AY
open Go
theorem set_regs {l : List Task} {t : Nat} {x : Task} (h : x.regs = (l.getD t default).regs) (j : Nat) : ((l.set t x).getD j default).regs = (l.getD j default).regs := by
  simp only [List.getD_eq_getElem?_getD] at *
  rw [List.getElem?_set]
  by_cases e : t = j
  · subst e
    by_cases hl : t < l.length
    · simp only [if_pos rfl, if_pos hl, Option.getD_some]; exact h
    · rw [if_pos rfl, if_neg hl, List.getElem?_eq_none (by omega)]
  · rw [if_neg e]
theorem set_self {l : List Task} {t : Nat} {x : Task} (h : t < l.length) : (l.set t x).getD t default = x := by
  rw [getD_set _ _ _ _ _ h, if_pos rfl]
theorem set_set {l : List Task} {t : Nat} {x y : Task} : (l.set t x).set t y = l.set t y := by simp
end Go.Proofs.AY
namespace Go.Proofs.AY
open Go
/-- A cell, let go by a task. -/
def letGo (t : Int) (c : DCell) : DCell := if c.lock = t then { c with lock := -1 } else c
def freeS (s : DSys) (t : Int) : DSys := { s with cells := s.cells.map (letGo t) }
theorem getD_map {α β : Type} [Inhabited α] [Inhabited β] (f : α → β) (l : List α) {j : Nat} (h : j < l.length) : (l.map f).getD j default = f (l.getD j default) := by
  simp only [List.getD_eq_getElem?_getD, List.getElem?_map, List.getElem?_eq_getElem h, Option.map_some, Option.getD_some]
end Go.Proofs.AY
namespace Go.Proofs.AY
open Go
/-- A change begins again. -/
def againT (x : Task) : Task := { x with regs := x.old, reads := [], puts := [], when := 0, stage := 0, at_ := 0 }
theorem sub_at {ρ : List Sel} {N k t k2 n r : Nat} (hr : nth ρ r = some (.subst k t k2)) (hn : n = 3) : CV.s ⟨k2, 0⟩ n = (CV.s ⟨r, t⟩ 3).rn ρ N := by
  subst hn
  show _ = CV.s (Ref.rn ρ N ⟨r, t⟩) 3
  unfold Ref.rn
  simp only [hr, Sel.fn, if_true]
theorem sub_ne {ρ : List Sel} {N k t k2 r j : Nat} (hr : nth ρ r = some (.subst k t k2)) (hj : j ≠ t) : CV.s ⟨k, j⟩ 3 = (CV.s ⟨r, j⟩ 3).rn ρ N := by
  show _ = CV.s (Ref.rn ρ N ⟨r, j⟩) 3
  unfold Ref.rn
  simp only [hr, Sel.fn, if_neg hj]
/-- A family with one member replaced. -/
theorem subLe {ρ : List Sel} {N : Nat} {loc : List AObj} {fz : List (Nat × CV)} {k t k2 m n : Nat} {ty sz : Nat} {f g : Nat → Nat → List CV} {f2 : Nat → List CV} {n2 : Nat}
    (hk : nth loc k = some (.rows ty sz m n f)) (hk2 : nth loc k2 = some (.row ty sz n2 f2)) (hn : n2 = n)
    (h1 : ∀ i, i < m → i ≠ t → ∀ j, j < n → cvsLe ρ N (resL fz (f i j)) (g i j)) (h2 : ∀ j, j < n → cvsLe ρ N (resL fz (f2 j)) (g t j)) :
    objLe ρ N loc fz (.subst k t k2) (.rows ty sz m n g) := by
  subst hn
  refine ⟨trivial, fun i hi => ?_⟩
  unfold rowLe
  by_cases h : i = t
  · subst h
    have e : lkV loc (Sel.fn (.subst k i k2) i) = some (.t, .row ty sz n2 f2) := by
      rw [show Sel.fn (.subst k i k2) i = ⟨k2, 0⟩ from if_pos rfl]
      simp only [lkV, hk2]
    rw [e]
    exact ⟨trivial, rfl, rfl, rfl, h2⟩
  · have e : lkV loc (Sel.fn (.subst k t k2) i) = some (.p (i < m), .row ty sz n2 (f i)) := by
      rw [show Sel.fn (.subst k t k2) i = ⟨k, i⟩ from if_neg h]
      simp only [lkV, hk]
    rw [e]
    exact ⟨hi, rfl, rfl, rfl, h1 i hi h⟩
end Go.Proofs.AY
namespace Go.Proofs.AY
open Go
/-- A task's record is another one. -/
def setT (s : DSys) (t : Nat) (x : Task) : DSys := { s with tasks := s.tasks.set t x }
abbrev tk (s : DSys) (t : Nat) : Task := s.tasks.getD t default
def againS (s : DSys) (t : Nat) : DSys := setT (freeS s t) t (againT (tk s t))
theorem tk_setT {s : DSys} {t : Nat} {x : Task} (h : t < s.tasks.length) : tk (setT s t x) t = x := set_self h
theorem setT_setT {s : DSys} {t : Nat} {x y : Task} : setT (setT s t x) t y = setT s t y := by simp [setT]
theorem setT_len {s : DSys} {t : Nat} {x : Task} : (setT s t x).tasks.length = s.tasks.length := by simp [setT]
end Go.Proofs.AY
namespace Go.Proofs.AY
open Go
abbrev blindP (s : DSys) (t : Nat) (c : Int) : Prop := (0 ≤ (s.cells.getD c.toNat default).lock ∧ (s.cells.getD c.toNat default).lock ≠ t) ∨ (tk s t).since < (s.cells.getD c.toNat default).time
end Go.Proofs.AY
namespace Go.Proofs.AY
open Go
def beginT (s : DSys) (x : Task) : Task := { x with since := s.clock, old := x.regs, frm := s.log.length, when := 0, stage := 1, at_ := 0 }
def beginS (s : DSys) (t : Nat) : DSys := setT s t (beginT s (tk s t))
end Go.Proofs.AY
namespace Go.Proofs.AY
open Go
def setC (s : DSys) (c : Nat) (x : DCell) : DSys := { s with cells := s.cells.set c x }
theorem setC_len {s : DSys} {c : Nat} {x : DCell} : (setC s c x).cells.length = s.cells.length := by simp [setC]
/-- The cell that a change in StageLocks, or StageWrite, is at. -/
abbrev putAt (x : Task) : Put := x.puts.getD x.at_.toNat default
def lockS (s : DSys) (t : Nat) : DSys :=
  if 0 ≤ (s.cells.getD (putAt (tk s t)).cell.toNat default).lock then againS s t
  else if (tk s t).at_ + 1 = (tk s t).puts.length then
    setT (setC s (putAt (tk s t)).cell.toNat { s.cells.getD (putAt (tk s t)).cell.toNat default with lock := t }) t { tk s t with stage := 3, at_ := 0 }
  else setT (setC s (putAt (tk s t)).cell.toNat { s.cells.getD (putAt (tk s t)).cell.toNat default with lock := t }) t { tk s t with at_ := (tk s t).at_ + 1 }
end Go.Proofs.AY
namespace Go.Proofs.AY
open Go
def endE (s : DSys) (t : Nat) (w : Int) : Entry := ⟨t, (tk s t).pc, w, (tk s t).reads, (tk s t).puts, (tk s t).frm⟩
def logS (s : DSys) (e : Entry) : DSys := { s with log := s.log ++ [e] }
def endT (x : Task) : Task := { x with pc := x.pc + 1, reads := [], puts := [], since := 0, when := 0, frm := 0, stage := 0, at_ := 0 }
def endS (s : DSys) (t : Nat) (w : Int) : DSys := setT (logS s (endE s t w)) t (endT (tk s t))
end Go.Proofs.AY
namespace Go.Proofs.AY
open Go
abbrev readAt (x : Task) : Put := x.reads.getD x.at_.toNat default
def checkS (s : DSys) (t : Nat) : DSys :=
  if ((tk s t).reads.length : Int) ≤ (tk s t).at_ then setT s t { tk s t with stage := 5, at_ := 0 }
  else if blindP s t (readAt (tk s t)).cell then againS s t
  else setT s t { tk s t with at_ := (tk s t).at_ + 1 }
def writeC (s : DSys) (t : Nat) : DSys := setC s (putAt (tk s t)).cell.toNat ⟨(putAt (tk s t)).num, (tk s t).when, -1⟩
def writeS (s : DSys) (t : Nat) : DSys :=
  if (tk s t).at_ + 1 = (tk s t).puts.length then endS (setT (writeC s t) t { tk s t with at_ := (tk s t).at_ + 1 }) t (tk s t).when
  else setT (writeC s t) t { tk s t with at_ := (tk s t).at_ + 1 }
end Go.Proofs.AY
namespace Go.Proofs.AY
open Go
def regF (l : List Int) (d : Deed) : List Int :=
  if d.kind = 3 then l.set d.a.toNat d.b
  else if d.kind = 4 then l.set d.a.toNat ((l.getD d.a.toNat default + l.getD d.b.toNat default).tmod 100)
  else l
def loadS (s : DSys) (t : Nat) (d : Deed) : DSys :=
  if 0 ≤ findP (tk s t).puts d.b then
    setT s t { tk s t with regs := (tk s t).regs.set d.a.toNat ((tk s t).puts.getD (findP (tk s t).puts d.b).toNat default).num, at_ := (tk s t).at_ + 1 }
  else if blindP s t d.b then againS s t
  else setT s t { tk s t with regs := (tk s t).regs.set d.a.toNat (s.cells.getD d.b.toNat default).num, reads := addP (tk s t).reads ⟨d.b, (s.cells.getD d.b.toNat default).num⟩, at_ := (tk s t).at_ + 1 }
def deedS (s : DSys) (t : Nat) (ds : List Deed) : DSys :=
  let x := tk s t
  if (ds.length : Int) ≤ x.at_ then (if (x.puts.length : Int) = 0 then endS s t x.since else setT s t { x with stage := 2, at_ := 0 })
  else
    let d := ds.getD x.at_.toNat default
    if d.kind = 1 then loadS s t d
    else if d.kind = 2 then setT s t { x with puts := addP x.puts ⟨d.a, x.regs.getD d.b.toNat default⟩, at_ := x.at_ + 1 }
    else if d.kind = 5 then
      (if x.regs.getD d.a.toNat default = 0 then setT (againS s t) t { tk (againS s t) t with when := x.since + 1 } else setT s t { x with at_ := x.at_ + 1 })
    else setT s t { x with regs := regF x.regs d, at_ := x.at_ + 1 }
theorem findP_lt {l : List Put} {c : Int} (h : 0 ≤ findP l c) : findP l c < l.length := by
  unfold findP at *
  split at h
  · rename_i h1; rw [if_pos h1]; omega
  · omega
theorem findP_b (l : List Put) (c : Int) : -1 ≤ findP l c := by
  unfold findP; split <;> omega
end Go.Proofs.AY
namespace Go.Proofs.AY
open Go
theorem famLe {ρ : List Sel} {N : Nat} {fz : List (Nat × CV)} {ts : List Task} {t nt a : Nat} {x : Task} {v : Int} (hn : ts.length = nt) (h3 : (ts.getD t default).regs.length = 3) (hr : x.regs = (ts.getD t default).regs.set a v) :
    ∀ i, i < nt → ∀ j, j < 3 → cvsLe ρ N (resL fz ((if i = t then (fun j => if j = a then [iv v] else eI ((ts.getD t default).regs.getD j default)) else fun j => eI ((ts.getD i default).regs.getD j default)) j)) (eI (((ts.set t x).getD i default).regs.getD j default)) := by
  intro i hi j hj
  rw [getD_set _ _ _ _ _ (by omega)]
  have hid : ∀ y : Int, cvsLe ρ N (resL fz (eI y)) (eI y) := fun y => by
    unfold resL; split <;> exact ⟨rfl, trivial⟩
  by_cases h : i = t
  · simp only [if_pos h]
    rw [hr, getD_set _ _ _ _ _ (by omega)]
    by_cases h' : j = a
    · simp only [if_pos h']; exact hid v
    · simp only [if_neg h']; exact hid _
  · simp only [if_neg h]; exact hid _
end Go.Proofs.AY
namespace Go.Proofs.AY
open Go
theorem famLe2 {ρ : List Sel} {N : Nat} {fz : List (Nat × CV)} {ts : List Task} {t nt : Nat} {x : Task} {l : List Int} (hn : ts.length = nt) (hr : x.regs = l) :
    ∀ i, i < nt → ∀ j, j < 3 → cvsLe ρ N (resL fz ((if i = t then (fun j => eI (l.getD j default)) else fun j => eI ((ts.getD i default).regs.getD j default)) j)) (eI (((ts.set t x).getD i default).regs.getD j default)) := by
  intro i hi j hj
  rw [getD_set _ _ _ _ _ (by omega)]
  have hid : ∀ y : Int, cvsLe ρ N (resL fz (eI y)) (eI y) := fun y => by
    unfold resL; split <;> exact ⟨rfl, trivial⟩
  by_cases h : i = t
  · simp only [if_pos h]; rw [hr]; exact hid _
  · simp only [if_neg h]; exact hid _
end Go.Proofs.AY
namespace Go.Proofs.AY
open Go
theorem famId {ρ : List Sel} {N : Nat} {fz : List (Nat × CV)} {ts : List Task} {t : Nat} {x : Task} (hr : x.regs = (ts.getD t default).regs) (i j : Nat) :
    cvsLe ρ N (resL fz (eI ((ts.getD i default).regs.getD j default))) (eI (((ts.set t x).getD i default).regs.getD j default)) := by
  rw [set_regs hr]
  unfold resL; split <;> exact ⟨rfl, trivial⟩
theorem loadS_log (s : DSys) (t : Nat) (d : Deed) : (loadS s t d).log = s.log := by
  unfold loadS
  split
  · rfl
  · split <;> rfl
end Go.Proofs.AY
namespace Go.Proofs.AY
open Go
/-- The act that a task is at, if there is one. -/
def nextA (p : DProg) (x : Task) : DAct := if ((actsOf p x.body).length : Int) ≤ x.pc then default else actAt p x
def tryS (s : DSys) (t : Nat) (ds : List Deed) : DSys :=
  let x := tk s t
  if x.stage = 0 then beginS s t
  else if x.stage = 1 then deedS s t ds
  else if x.stage = 2 then lockS s t
  else if x.stage = 3 then setT { s with clock := s.clock + 1 } t { x with when := s.clock + 1, stage := 4, at_ := 0 }
  else if x.stage = 4 then checkS s t
  else writeS s t
end Go.Proofs.AY
namespace Go.Proofs.AY
open Go
structure Fit (nc : Nat) (x : Task) : Prop where
  ho : x.old.length = 3
  hr : x.regs.length = 3
  hx : ∀ j, j < 3 → 0 ≤ x.regs.getD j default ∧ x.regs.getD j default ≤ 99
  hat : 0 ≤ x.at_ ∧ x.at_ ≤ 1000000
  hrd : x.reads.length ≤ 1000000
  hpt : x.puts.length ≤ 1000000
  hpc : 0 ≤ x.pc ∧ x.pc ≤ 1000000
  hsi : 0 ≤ x.since ∧ x.since ≤ 1000000
  hst : 0 ≤ x.stage ∧ x.stage ≤ 5
  hlk : (x.stage = 2 ∨ x.stage = 5) → x.at_ < x.puts.length ∧ 0 ≤ (putAt x).cell ∧ (putAt x).cell < nc
  hck : x.stage = 4 → x.at_ < x.reads.length → 0 ≤ (readAt x).cell ∧ (readAt x).cell < nc
end Go.Proofs.AY
namespace Go.Proofs.AY
open Go
theorem lockS_log (s : DSys) (t : Nat) : (lockS s t).log = s.log := by
  unfold lockS
  split
  · rfl
  · split <;> rfl
theorem checkS_log (s : DSys) (t : Nat) : (checkS s t).log = s.log := by
  unfold checkS
  split
  · rfl
  · split <;> rfl
end Go.Proofs.AY
namespace Go.Proofs.AY
open Go
section
variable {ρ : List Sel} {N : Nat} {fz : List (Nat × CV)} {loc : List AObj}
theorem snocLeJ {α : Type} [Inhabited α] (enc : Nat → α → List CV) {l : List α} {x : α} {m : Nat} {F g : Nat → List CV} (hm : l.length = m) (h1 : ∀ j, j < m → cvsLe ρ N (resL fz (F j)) (enc j (l.getD j default))) (h2 : ∀ j, cvsLe ρ N (resL fz (g j)) (enc m x)) :
    ∀ j, j < m + 1 → cvsLe ρ N (resL fz (if j < m then F j else g (j - m))) (enc j ((l ++ [x]).getD j default)) := by
  intro j hj
  rw [getD_snoc, hm]
  by_cases h : j < m
  · simp only [if_pos h]; exact h1 j h
  · have e : j = m := by omega
    simp only [if_neg h]; rw [if_pos e, e]; exact h2 _
theorem gr_lt {k n k2 r j m : Nat} (hr : nth ρ r = some (.grow k n k2)) (hj : j < n) : CV.s ⟨k, j⟩ m = (CV.s ⟨r, j⟩ m).rn ρ N := by
  show _ = CV.s (Ref.rn ρ N ⟨r, j⟩) m
  unfold Ref.rn
  simp only [hr, Sel.fn, if_pos hj]
theorem gr_eq {k n k2 r m : Nat} (hr : nth ρ r = some (.grow k n k2)) : CV.s ⟨k2, 0⟩ m = (CV.s ⟨r, n⟩ m).rn ρ N := by
  show _ = CV.s (Ref.rn ρ N ⟨r, n⟩) m
  unfold Ref.rn
  simp only [hr, Sel.fn, if_neg (Nat.lt_irrefl n)]
theorem growLe {k k2 m n : Nat} {ty sz : Nat} {f g : Nat → Nat → List CV} {f2 : Nat → List CV} {n2 : Nat}
    (hk : nth loc k = some (.rows ty sz m n f)) (hk2 : nth loc k2 = some (.row ty sz n2 f2)) (hn : n2 = n)
    (h1 : ∀ i, i < m → ∀ j, j < n → cvsLe ρ N (resL fz (f i j)) (g i j)) (h2 : ∀ j, j < n → cvsLe ρ N (resL fz (f2 j)) (g m j)) :
    objLe ρ N loc fz (.grow k m k2) (.rows ty sz (m + 1) n g) := by
  subst hn
  refine ⟨Nat.le_refl _, fun i hi => ?_⟩
  unfold rowLe
  by_cases h : i < m
  · have e : lkV loc (Sel.fn (.grow k m k2) i) = some (.p (i < m), .row ty sz n2 (f i)) := by
      rw [show Sel.fn (.grow k m k2) i = ⟨k, i⟩ from if_pos h]
      simp only [lkV, hk]
    rw [e]
    exact ⟨h, rfl, rfl, rfl, h1 i h⟩
  · have e' : i = m := by omega
    subst e'
    have e : lkV loc (Sel.fn (.grow k i k2) i) = some (.t, .row ty sz n2 f2) := by
      rw [show Sel.fn (.grow k i k2) i = ⟨k2, 0⟩ from if_neg h]
      simp only [lkV, hk2]
    rw [e]
    exact ⟨trivial, rfl, rfl, rfl, h2⟩
end
def forkA (s : DSys) (t : Nat) (kids : List Int) (i : Nat) : DSys := { s with tasks := s.tasks ++ (kids.take i).map fun b => newTask b t }
def forkS (s : DSys) (t : Nat) (kids : List Int) : DSys := setT (forkA s t kids kids.length) t { tk s t with way := 1 }
end Go.Proofs.AY
/- AY, part Y: plain words: what a step does to a system; what stays so. -/
namespace Go.Proofs.AY
open Go

/-- A task's writes, all of them. -/
def writesF : Nat → DSys → Nat → DSys
  | 0, s, _ => s
  | f + 1, s, t => if (tk s t).stage = 5 then writesF f (writeS s t) t else s
/-- What calling a task off does, when those that it began are off. -/
def offT (s : DSys) (t : Nat) : DSys :=
  if (tk s t).way ≠ 0 ∧ (tk s t).way ≠ 1 then s
  else
    let s1 := writesF ((tk s t).puts.length + 1) s t
    let s2 := if (tk s1 t).stage ≠ 0 then againS s1 t else s1
    setT s2 t { tk s2 t with way := 4 }
/-- Those that a task began are called off; g calls one off. -/
def offK (g : DSys → Nat → DSys) (s : DSys) (t k : Nat) : DSys := if (tk s k).up = t then g s k else s
def offL (g : DSys → Nat → DSys) (s : DSys) (t n : Nat) : DSys := (List.range n).foldl (fun s k => offK g s t k) s
def offF : Nat → DSys → Nat → DSys
  | 0, s, _ => s
  | f + 1, s, t => offT (offL (offF f) s t s.tasks.length) t
def nextPc (s : DSys) (t : Nat) : DSys := setT s t { tk s t with pc := (tk s t).pc + 1 }
def wayS (s : DSys) (t : Nat) (w : Int) : DSys := setT s t { tk s t with way := w }
def awaitsS (s : DSys) (t : Nat) : DSys :=
  if kidsN s.tasks t 3 = 0 then nextPc (wayS s t 0) t
  else wayS (offL (offF s.tasks.length) s t s.tasks.length) t 3
def stepS (p : DProg) (s : DSys) (t : Nat) : DSys :=
  let x := tk s t
  if x.way = 1 then awaitsS s t
  else if ((actsOf p x.body).length : Int) ≤ x.pc then wayS s t 2
  else
    let a := actAt p x
    if a.kind = 1 then tryS s t a.deeds
    else if a.kind = 2 then forkS s t a.kids
    else if a.kind = 3 ∨ x.regs.getD a.reg.toNat default ≠ 0 then wayS s t 3
    else nextPc s t
def readyB (s : DSys) (t : Nat) : Bool :=
  let x := tk s t
  if 200 ≤ s.clock then false
  else if x.way = 0 then decide (x.stage ≠ 0 ∨ x.when ≤ s.clock)
  else if x.way = 1 then decide (0 < kidsN s.tasks t 3 ∨ kidsN s.tasks t 0 + kidsN s.tasks t 1 = 0)
  else false
def doB (s : DSys) (t : Int) : Bool := decide (0 ≤ t ∧ t ≤ s.tasks.length - 1) && readyB s t.toNat
def doS (p : DProg) (s : DSys) (t : Int) : DSys := if doB s t then stepS p s t.toNat else s
def runS (p : DProg) (s : DSys) (ts : List Int) : DSys := ts.foldl (doS p) s
end Go.Proofs.AY
/- AY, part P: plain words: lists of cells and numbers that ascend. -/
namespace Go.Proofs.AY
open Go

abbrev ascP (l : List Put) : Prop := l.Pairwise fun a b => a.cell < b.cell
abbrev inP (n : Int) (y : Put) : Prop := 0 ≤ y.cell ∧ y.cell ≤ n - 1 ∧ 0 ≤ y.num ∧ y.num ≤ 99
theorem getD_get {l : List Put} {i : Nat} (h : i < l.length) : l.getD i default = l[i] := by
  rw [List.getD_eq_getElem?_getD, List.getElem?_eq_getElem h]; rfl
theorem listOk_iff {l : List Put} {n : Int} : listOk l n = true ↔ (∀ y ∈ l, inP n y) ∧ ascP l := by
  constructor
  · intro h
    have h1 : ∀ i (hi : i < l.length), putP l n i := fun i hi => listOk_at h hi
    refine ⟨fun y hy => ?_, ?_⟩
    · obtain ⟨j, hj, rfl⟩ := mem_getD default hy
      have := h1 j hj
      exact ⟨this.1, this.2.1, this.2.2.1, this.2.2.2.1⟩
    · show l.Pairwise _
      rw [List.pairwise_iff_getElem]
      intro i j hi hj hij
      rw [← getD_get hi, ← getD_get hj]
      clear hi
      induction j with
      | zero => omega
      | succ j ih =>
        have h2 := (h1 (j + 1) hj).2.2.2.2 (by omega)
        simp only [Nat.add_sub_cancel] at h2
        by_cases e : i = j
        · subst e; exact h2
        · have := ih (by omega) (by omega); omega
  · rintro ⟨h1, h2⟩
    unfold listOk
    apply allTo_of
    intro i hi
    refine decide_eq_true ?_
    have h3 := h1 _ (getD_mem default hi)
    refine ⟨h3.1, h3.2.1, h3.2.2.1, h3.2.2.2, fun h0 => ?_⟩
    have := List.pairwise_iff_getElem.1 h2 (i - 1) i (by omega) hi (by omega)
    rw [← getD_get, ← getD_get] at this
    exact this
def insL (x : Put) : List Put → List Put
  | [] => [x]
  | y :: l => if x.cell ≤ y.cell then x :: (y :: l).filter (fun z => decide (z.cell ≠ x.cell)) else y :: insL x l
theorem fold_t (x : Put) (l o : List Put) : l.foldl (addS x) (o, true) = (o ++ l.filter (fun z => decide (z.cell ≠ x.cell)), true) := by
  induction l generalizing o with
  | nil => simp
  | cons y l ih =>
    rw [List.foldl_cons]
    by_cases h : y.cell ≠ x.cell
    · rw [addS_4 h, ih, List.filter_cons_of_pos (by simpa using h)]; simp
    · rw [addS_5 h, ih, List.filter_cons_of_neg (by simpa using h)]
theorem fold_f (x : Put) (l o : List Put) : (let od := l.foldl (addS x) (o, false); if od.2 then od.1 else od.1 ++ [x]) = o ++ insL x l := by
  induction l generalizing o with
  | nil => simp [insL]
  | cons y l ih =>
    rw [List.foldl_cons]
    by_cases h : x.cell ≤ y.cell
    · by_cases h' : y.cell ≠ x.cell
      · rw [addS_1 h h', fold_t]
        simp only [insL, if_pos h, if_true]
        rw [List.filter_cons_of_pos (by simpa using h')]; simp
      · rw [addS_2 h h', fold_t]
        simp only [insL, if_pos h, if_true]
        rw [List.filter_cons_of_neg (by simpa using h')]; simp
    · rw [addS_3 h, ih]
      simp only [insL, if_neg h]; simp
theorem addP_ins (l : List Put) (x : Put) : addP l x = insL x l := by
  have := fold_f x l []
  simpa [addP] using this
theorem insL_mem {x y : Put} {l : List Put} (h : y ∈ insL x l) : y = x ∨ y ∈ l := by
  induction l with
  | nil => simp [insL] at h; exact .inl h
  | cons z l ih =>
    simp only [insL] at h
    split at h
    · rcases List.mem_cons.1 h with h | h
      · exact .inl h
      · exact .inr (List.mem_filter.1 h).1
    · rcases List.mem_cons.1 h with h | h
      · exact .inr (h ▸ List.mem_cons_self)
      · rcases ih h with h | h
        · exact .inl h
        · exact .inr (List.mem_cons_of_mem _ h)
theorem insL_asc {x : Put} {l : List Put} (h : ascP l) : ascP (insL x l) := by
  induction l with
  | nil => simp [insL, ascP]
  | cons z l ih =>
    have hz := List.pairwise_cons.1 h
    simp only [insL]
    split
    · rename_i hle
      refine List.pairwise_cons.2 ⟨fun y hy => ?_, h.filter _⟩
      obtain ⟨h1, h2⟩ := List.mem_filter.1 hy
      have h2 : y.cell ≠ x.cell := by simpa using h2
      rcases List.mem_cons.1 h1 with h1 | h1
      · subst h1; omega
      · have := hz.1 y h1; omega
    · rename_i hle
      refine List.pairwise_cons.2 ⟨fun y hy => ?_, ih hz.2⟩
      rcases insL_mem hy with h1 | h1
      · subst h1; omega
      · exact hz.1 y h1
theorem listOk_add {l : List Put} {n : Int} {x : Put} (h : listOk l n = true) (hx : inP n x) : listOk (addP l x) n = true := by
  rw [addP_ins]
  rw [listOk_iff] at *
  refine ⟨fun y hy => ?_, insL_asc h.2⟩
  rcases insL_mem hy with e | e
  · subst e; exact hx
  · exact h.1 y e
theorem listOk_nil (n : Int) : listOk [] n = true := rfl
theorem listOk_in {l : List Put} {n : Int} (h : listOk l n = true) {i : Nat} (hi : i < l.length) : inP n (l.getD i default) :=
  (listOk_iff.1 h).1 _ (getD_mem default hi)
end Go.Proofs.AY
/- AY, part Z: plain words: what stays so of a system when steps are done. -/
namespace Go.Proofs.AY
open Go

abbrev regsP (l : List Int) : Prop := l.length = 3 ∧ ∀ j, j < 3 → 0 ≤ l.getD j default ∧ l.getD j default ≤ 99
structure TaskI (p : DProg) (x : Task) : Prop where
  hb : 0 ≤ x.body ∧ x.body ≤ p.bodies.length - 1
  hpc : 0 ≤ x.pc ∧ x.pc ≤ (actsOf p x.body).length
  hst : 0 ≤ x.stage ∧ x.stage ≤ 5
  hsp : x.stage ≠ 0 → x.pc < (actsOf p x.body).length ∧ (actAt p x).kind = 1
  hw : x.way = 1 → x.pc < (actsOf p x.body).length ∧ (actAt p x).kind = 2
  hr : regsP x.regs
  ho : regsP x.old
  hre : listOk x.reads p.cells.length = true
  hpu : listOk x.puts p.cells.length = true
  hat : 0 ≤ x.at_ ∧ (x.stage = 0 ∨ x.stage = 3 → x.at_ = 0) ∧ (x.stage = 1 → x.at_ ≤ (actAt p x).deeds.length) ∧ (x.stage = 4 → x.at_ ≤ x.reads.length) ∧ (x.stage = 2 ∨ x.stage = 5 → x.at_ < x.puts.length) ∧ (x.stage = 3 ∨ x.stage = 4 → 0 < x.puts.length)
structure SysI (p : DProg) (s : DSys) : Prop where
  hp : progOk p = true
  hc : s.cells.length = p.cells.length
  hcn : ∀ j, j < s.cells.length → 0 ≤ (s.cells.getD j default).num ∧ (s.cells.getD j default).num ≤ 99
  hcl : 0 ≤ s.clock ∧ s.clock ≤ 200
  ht : ∀ k, k < s.tasks.length → TaskI p (tk s k)
  hu : ∀ k, k < s.tasks.length → (tk s k).up < k
  hs : ∀ k, k < s.tasks.length → 0 ≤ (tk s k).since ∧ (tk s k).since ≤ s.clock
theorem tk_ne {s : DSys} {t k : Nat} {x : Task} (h : k ≠ t) : tk (setT s t x) k = tk s k := by
  show (s.tasks.set t x).getD k default = s.tasks.getD k default
  simp only [List.getD_eq_getElem?_getD, List.getElem?_set]
  rw [if_neg (fun e => h e.symm)]
theorem SysI.set {p : DProg} {s : DSys} {t : Nat} {x : Task} (h : SysI p s) (ht : t < s.tasks.length) (hx : TaskI p x) (hu : x.up = (tk s t).up) (hs : 0 ≤ x.since ∧ x.since ≤ s.clock) : SysI p (setT s t x) := by
  have hl : (setT s t x).tasks.length = s.tasks.length := setT_len
  refine ⟨h.hp, h.hc, h.hcn, h.hcl, fun k hk => ?_, fun k hk => ?_, fun k hk => ?_⟩
  all_goals
    rw [hl] at hk
    by_cases e : k = t
    · subst e
      rw [tk_setT hk]
      first | exact hx | (rw [hu]; exact h.hu k hk) | exact hs
    · rw [tk_ne e]
      first | exact h.ht k hk | exact h.hu k hk | exact h.hs k hk
theorem SysI.body {p : DProg} {s : DSys} (h : SysI p s) {x : Task} (hx : TaskI p x) : (actsOf p x.body).length ≤ 4 ∧ ∀ k, k < (actsOf p x.body).length → actOk p x.body ((actsOf p x.body).getD k default) = true := by
  have hp := h.hp
  unfold progOk at hp
  simp only [Bool.and_eq_true] at hp
  have := formOk_body hp.1 (i := x.body.toNat) (by have := hx.hb; omega)
  have e : ((x.body.toNat : Nat) : Int) = x.body := by have := hx.hb; omega
  rw [e] at this
  exact this
theorem SysI.small {p : DProg} {s : DSys} (h : SysI p s) : p.cells.length ≤ 3 ∧ 1 ≤ p.bodies.length ∧ p.bodies.length ≤ 4 := by
  have hp := h.hp
  unfold progOk at hp
  simp only [Bool.and_eq_true] at hp
  exact formOk_len hp.1
theorem TaskI.len {p : DProg} {x : Task} (h : TaskI p x) : (x.reads.length : Int) ≤ p.cells.length ∧ (x.puts.length : Int) ≤ p.cells.length :=
  ⟨listOk_len h.hre (by omega), listOk_len h.hpu (by omega)⟩
theorem SysI.fit {p : DProg} {s : DSys} (h : SysI p s) {t : Nat} (ht : t < s.tasks.length) : Fit s.cells.length (tk s t) := by
  have h1 := h.ht t ht
  have h2 := h.small
  have h3 := h1.len
  have h4 := (h.body h1).1
  have h5 := h.hs t ht
  have h6 := h.hcl
  have hd : (tk s t).stage = 1 → (actAt p (tk s t)).deeds.length ≤ 5 := fun e => by
    have h7 := h1.hsp (by omega)
    have h8 := (h.body h1).2 (tk s t).pc.toNat (by have := h1.hpc; omega)
    unfold actOk at h8
    split at h8
    · cases h8
    · rw [if_pos h7.2] at h8
      simp only [Bool.and_eq_true, decide_eq_true_eq] at h8
      have := h8.2
      show ((actsOf p (tk s t).body).getD (tk s t).pc.toNat default).deeds.length ≤ 5
      omega
  obtain ⟨a1, a2, a3, a4, a5, a6⟩ := h1.hat
  have hb := h1.hst
  have hpc := h1.hpc
  refine ⟨h1.ho.1, h1.hr.1, h1.hr.2, ⟨a1, ?_⟩, by omega, by omega, by omega, by omega, hb, fun e => ?_, fun e1 e2 => ?_⟩
  · rcases (by omega : (tk s t).stage = 0 ∨ (tk s t).stage = 3 ∨ (tk s t).stage = 1 ∨ (tk s t).stage = 4 ∨ (tk s t).stage = 2 ∨ (tk s t).stage = 5) with e | e | e | e | e | e
    · have := a2 (.inl e); omega
    · have := a2 (.inr e); omega
    · have := a3 e; have := hd e; omega
    · have := a4 e; omega
    · have := a5 (.inl e); omega
    · have := a5 (.inr e); omega
  · have := a5 e
    have := listOk_in h1.hpu (i := (tk s t).at_.toNat) (by omega)
    rw [h.hc]
    refine ⟨by omega, this.1, ?_⟩
    have := this.2.1
    show ((tk s t).puts.getD (tk s t).at_.toNat default).cell < _
    omega
  · have := listOk_in h1.hre (i := (tk s t).at_.toNat) (by omega)
    rw [h.hc]
    refine ⟨this.1, ?_⟩
    have := this.2.1
    show ((tk s t).reads.getD (tk s t).at_.toNat default).cell < _
    omega
theorem SysI.free {p : DProg} {s : DSys} (h : SysI p s) (t : Int) : SysI p (freeS s t) := by
  refine ⟨h.hp, by show (s.cells.map _).length = _; rw [List.length_map]; exact h.hc, fun j hj => ?_, h.hcl, h.ht, h.hu, h.hs⟩
  have hj' : j < s.cells.length := by simpa [freeS] using hj
  have e : (freeS s t).cells.getD j default = letGo t (s.cells.getD j default) := getD_map _ _ hj'
  rw [e]
  have := h.hcn j hj'
  unfold letGo
  split <;> exact this
theorem SysI.setC {p : DProg} {s : DSys} (h : SysI p s) {c : Nat} {x : DCell} (hx : 0 ≤ x.num ∧ x.num ≤ 99) : SysI p (setC s c x) := by
  refine ⟨h.hp, by rw [setC_len]; exact h.hc, fun j hj => ?_, h.hcl, h.ht, h.hu, h.hs⟩
  rw [setC_len] at hj
  have e : (AY.setC s c x).cells.getD j default = if j = c then x else s.cells.getD j default := getD_set _ _ _ _ _ hj
  rw [e]
  split
  · exact hx
  · exact h.hcn j hj
theorem TaskI.again {p : DProg} {x : Task} (h : TaskI p x) : TaskI p (againT x) :=
  ⟨h.hb, h.hpc, ⟨Int.le_refl _, by show (0:Int) ≤ 5; omega⟩, fun e => absurd rfl e, h.hw, h.ho, h.ho, listOk_nil _, listOk_nil _, ⟨Int.le_refl _, fun _ => rfl, fun e => (by have e : (0:Int) = 1 := e; omega), fun e => (by have e : (0:Int) = 4 := e; omega), fun e => (by have e : (0:Int) = 2 ∨ (0:Int) = 5 := e; omega), fun e => (by have e : (0:Int) = 3 ∨ (0:Int) = 4 := e; omega)⟩⟩
theorem SysI.again {p : DProg} {s : DSys} (h : SysI p s) {t : Nat} (ht : t < s.tasks.length) : SysI p (againS s t) :=
  (h.free t).set ht (h.ht t ht).again rfl (h.hs t ht)
theorem TaskI.way {p : DProg} {x : Task} (h : TaskI p x) {w : Int} (hw : w = 1 → x.pc < (actsOf p x.body).length ∧ (actAt p x).kind = 2) : TaskI p { x with way := w } :=
  ⟨h.hb, h.hpc, h.hst, h.hsp, hw, h.hr, h.ho, h.hre, h.hpu, h.hat⟩
theorem SysI.way {p : DProg} {s : DSys} (h : SysI p s) {t : Nat} (ht : t < s.tasks.length) {w : Int} (hw : w = 1 → (tk s t).pc < (actsOf p (tk s t).body).length ∧ (actAt p (tk s t)).kind = 2) : SysI p (wayS s t w) :=
  h.set ht ((h.ht t ht).way hw) rfl (h.hs t ht)
theorem TaskI.next {p : DProg} {x : Task} (h : TaskI p x) (h1 : x.pc < (actsOf p x.body).length) (h2 : x.stage = 0) (h3 : x.way ≠ 1) : TaskI p { x with pc := x.pc + 1 } :=
  ⟨h.hb, by have := h.hpc; show 0 ≤ x.pc + 1 ∧ x.pc + 1 ≤ ((actsOf p x.body).length : Int); omega, h.hst, fun e => absurd h2 e, fun e => absurd e h3, h.hr, h.ho, h.hre, h.hpu, ⟨h.hat.1, h.hat.2.1, fun e => (by have e : x.stage = 1 := e; omega), h.hat.2.2.2⟩⟩
theorem TaskI.endT {p : DProg} {x : Task} (h : TaskI p x) (hs : x.stage ≠ 0) : TaskI p (endT x) :=
  ⟨h.hb, by have := h.hpc; have := h.hsp hs; show 0 ≤ x.pc + 1 ∧ x.pc + 1 ≤ ((actsOf p x.body).length : Int); omega, ⟨Int.le_refl _, by show (0:Int) ≤ 5; omega⟩, fun e => absurd rfl e, fun e => (by have e : x.way = 1 := e; have h1 := (h.hw e).2; have h2 := (h.hsp hs).2; omega), h.hr, h.ho, listOk_nil _, listOk_nil _, ⟨Int.le_refl _, fun _ => rfl, fun e => (by have e : (0:Int) = 1 := e; omega), fun e => (by have e : (0:Int) = 4 := e; omega), fun e => (by have e : (0:Int) = 2 ∨ (0:Int) = 5 := e; omega), fun e => (by have e : (0:Int) = 3 ∨ (0:Int) = 4 := e; omega)⟩⟩
theorem SysI.log {p : DProg} {s : DSys} (h : SysI p s) (e : Entry) : SysI p (logS s e) := ⟨h.hp, h.hc, h.hcn, h.hcl, h.ht, h.hu, h.hs⟩
theorem SysI.end_ {p : DProg} {s : DSys} (h : SysI p s) {t : Nat} (ht : t < s.tasks.length) (hs : (tk s t).stage ≠ 0) (w : Int) : SysI p (endS s t w) :=
  (h.log _).set ht ((h.ht t ht).endT hs) rfl ⟨Int.le_refl _, h.hcl.1⟩
theorem SysI.begin {p : DProg} {s : DSys} (h : SysI p s) {t : Nat} (ht : t < s.tasks.length) (h1 : (tk s t).pc < (actsOf p (tk s t).body).length) (h2 : (actAt p (tk s t)).kind = 1) : SysI p (beginS s t) := by
  have hx := h.ht t ht
  refine h.set ht ⟨hx.hb, hx.hpc, ⟨by show (0:Int) ≤ 1; omega, by show (1:Int) ≤ 5; omega⟩, fun _ => ⟨h1, h2⟩, hx.hw, hx.hr, hx.hr, hx.hre, hx.hpu, ⟨Int.le_refl _, fun _ => rfl, fun e => (by show (0:Int) ≤ _; omega), fun e => (by have e : (1:Int) = 4 := e; omega), fun e => (by have e : (1:Int) = 2 ∨ (1:Int) = 5 := e; omega), fun e => (by have e : (1:Int) = 3 ∨ (1:Int) = 4 := e; omega)⟩⟩ rfl ⟨h.hcl.1, Int.le_refl _⟩
theorem TaskI.at_ {p : DProg} {x : Task} (h : TaskI p x) (hs : x.stage ≠ 0) {k a : Int} (hk : 0 ≤ k ∧ k ≤ 5) (ha : 0 ≤ a ∧ (k = 0 ∨ k = 3 → a = 0) ∧ (k = 1 → a ≤ (actAt p x).deeds.length) ∧ (k = 4 → a ≤ x.reads.length) ∧ (k = 2 ∨ k = 5 → a < x.puts.length) ∧ (k = 3 ∨ k = 4 → 0 < x.puts.length)) (w : Int) : TaskI p { x with stage := k, at_ := a, when := w } :=
  ⟨h.hb, h.hpc, hk, fun _ => h.hsp hs, h.hw, h.hr, h.ho, h.hre, h.hpu, ha⟩
theorem SysI.lock {p : DProg} {s : DSys} (h : SysI p s) {t : Nat} (ht : t < s.tasks.length) (hs : (tk s t).stage = 2) : SysI p (lockS s t) := by
  have hx := h.ht t ht
  have ha := hx.hat
  have h2 := ha.2.2.2.2.1 (.inl hs)
  have hin := listOk_in hx.hpu (i := (tk s t).at_.toNat) (by omega)
  unfold lockS
  split
  · exact h.again ht
  · have hc : SysI p (AY.setC s (putAt (tk s t)).cell.toNat { s.cells.getD (putAt (tk s t)).cell.toNat default with lock := t }) := by
      refine h.setC ?_
      have hlt : (putAt (tk s t)).cell.toNat < s.cells.length := by
        have h1 := hin.1; have h2 := hin.2.1
        show ((tk s t).puts.getD (tk s t).at_.toNat default).cell.toNat < _
        rw [h.hc]; omega
      exact h.hcn _ hlt
    split
    · rename_i he
      exact hc.set ht (hx.at_ (by omega) (k := 3) (a := 0) (by omega) ⟨by omega, fun _ => rfl, by omega, by omega, by omega, by omega⟩ (tk s t).when) rfl (h.hs t ht)
    · rename_i he
      have := hx.at_ (by omega) (k := 2) (a := (tk s t).at_ + 1) (by omega) ⟨by omega, by omega, by omega, by omega, by omega, by omega⟩ (tk s t).when
      rw [← hs] at this
      exact hc.set ht this rfl (h.hs t ht)
theorem SysI.check {p : DProg} {s : DSys} (h : SysI p s) {t : Nat} (ht : t < s.tasks.length) (hs : (tk s t).stage = 4) : SysI p (checkS s t) := by
  have hx := h.ht t ht
  have ha := hx.hat
  have h2 := ha.2.2.2.1 hs
  have h3 := ha.2.2.2.2.2 (.inr hs)
  unfold checkS
  split
  · exact h.set ht (hx.at_ (by omega) (k := 5) (a := 0) (by omega) ⟨by omega, fun _ => rfl, by omega, by omega, by omega, by omega⟩ (tk s t).when) rfl (h.hs t ht)
  · split
    · exact h.again ht
    · have := hx.at_ (by omega) (k := 4) (a := (tk s t).at_ + 1) (by omega) ⟨by omega, by omega, by omega, by omega, by omega, by omega⟩ (tk s t).when
      rw [← hs] at this
      exact h.set ht this rfl (h.hs t ht)
theorem SysI.write {p : DProg} {s : DSys} (h : SysI p s) {t : Nat} (ht : t < s.tasks.length) (hs : (tk s t).stage = 5) : SysI p (writeS s t) := by
  have hx := h.ht t ht
  have ha := hx.hat
  have h2 := ha.2.2.2.2.1 (.inr hs)
  have hin := listOk_in hx.hpu (i := (tk s t).at_.toNat) (by omega)
  have hc : SysI p (writeC s t) := h.setC ⟨hin.2.2.1, hin.2.2.2⟩
  unfold writeS
  split
  · rename_i he
    have ht' : t < (writeC s t).tasks.length := ht
    have key : ∀ x : Task, tk (setT (writeC s t) t x) t = x := fun x => tk_setT ht'
    have hI : ∀ w, endS (setT (writeC s t) t { tk s t with at_ := (tk s t).at_ + 1 }) t w = setT (logS (writeC s t) (endE (setT (writeC s t) t { tk s t with at_ := (tk s t).at_ + 1 }) t w)) t (AY.endT (tk s t)) := by
      intro w
      unfold endS
      rw [key]
      simp only [setT, logS, List.set_set]
      rfl
    rw [hI]
    exact (hc.log _).set ht (hx.endT (by omega)) rfl ⟨Int.le_refl _, h.hcl.1⟩
  · rename_i he
    have := hx.at_ (by omega) (k := 5) (a := (tk s t).at_ + 1) (by omega) ⟨by omega, by omega, by omega, by omega, by omega, by omega⟩ (tk s t).when
    rw [← hs] at this
    exact hc.set ht this rfl (h.hs t ht)
theorem regsP_set {l : List Int} {i : Nat} {v : Int} (h : regsP l) (hv : 0 ≤ v ∧ v ≤ 99) : regsP (l.set i v) := by
  refine ⟨by rw [List.length_set]; exact h.1, fun j hj => ?_⟩
  rw [getD_set _ _ _ _ _ (by rw [h.1]; exact hj)]
  split
  · exact hv
  · exact h.2 j hj
theorem TaskI.deed {p : DProg} {x : Task} (h : TaskI p x) (hs : x.stage = 1) (ha : x.at_ < (actAt p x).deeds.length) {r : List Int} {rd pt : List Put} (hr : regsP r) (hrd : listOk rd p.cells.length = true) (hpt : listOk pt p.cells.length = true) : TaskI p { x with regs := r, reads := rd, puts := pt, at_ := x.at_ + 1 } :=
  ⟨h.hb, h.hpc, h.hst, h.hsp, h.hw, hr, h.ho, hrd, hpt, ⟨by have := h.hat.1; show 0 ≤ x.at_ + 1; omega, fun e => (by have e : x.stage = 0 ∨ x.stage = 3 := e; omega), fun _ => (by show x.at_ + 1 ≤ ((actAt p x).deeds.length : Int); omega), fun e => (by have e : x.stage = 4 := e; omega), fun e => (by have e : x.stage = 2 ∨ x.stage = 5 := e; omega), fun e => (by have e : x.stage = 3 ∨ x.stage = 4 := e; omega)⟩⟩
theorem SysI.deedP_ {p : DProg} {s : DSys} (h : SysI p s) {t : Nat} (ht : t < s.tasks.length) (hs : (tk s t).stage = 1) (ha : (tk s t).at_ < (actAt p (tk s t)).deeds.length) : deedP ((actAt p (tk s t)).deeds.getD (tk s t).at_.toNat default) p.cells.length := by
  have h1 := h.ht t ht
  have h7 := h1.hsp (by omega)
  have h8 := (h.body h1).2 (tk s t).pc.toNat (by have := h1.hpc; omega)
  unfold actOk at h8
  split at h8
  · cases h8
  · rw [if_pos h7.2] at h8
    simp only [Bool.and_eq_true, decide_eq_true_eq] at h8
    have h9 : (actAt p (tk s t)).deeds.all (fun d => deedOk d p.cells.length) = true := h8.1
    have := all_at h9 (j := (tk s t).at_.toNat) (by have := h1.hat.1; omega)
    exact of_decide_eq_true this
theorem SysI.load {p : DProg} {s : DSys} (h : SysI p s) {t : Nat} (ht : t < s.tasks.length) (hs : (tk s t).stage = 1) (ha : (tk s t).at_ < (actAt p (tk s t)).deeds.length) {d : Deed} (hd : 0 ≤ d.b ∧ d.b ≤ (p.cells.length : Int) - 1) : SysI p (loadS s t d) := by
  have hx := h.ht t ht
  unfold loadS
  split
  · rename_i hf
    have hin := listOk_in hx.hpu (i := (findP (tk s t).puts d.b).toNat) (by have := findP_lt hf; omega)
    exact h.set ht (hx.deed hs ha (regsP_set hx.hr hin.2.2) hx.hre hx.hpu) rfl (h.hs t ht)
  · split
    · exact h.again ht
    · have hcn := h.hcn d.b.toNat (by rw [h.hc]; omega)
      exact h.set ht (hx.deed hs ha (regsP_set hx.hr hcn) (listOk_add hx.hre ⟨hd.1, hd.2, hcn.1, hcn.2⟩) hx.hpu) rfl (h.hs t ht)
theorem regsP_F {l : List Int} {d : Deed} {n : Int} (h : regsP l) (hd : deedP d n) : regsP (regF l d) := by
  unfold regF
  split
  · exact regsP_set h (by omega)
  · split
    · refine regsP_set h ?_
      have h1 := h.2 d.a.toNat (by omega)
      have h2 := h.2 d.b.toNat (by omega)
      refine ⟨Int.tmod_nonneg _ (by omega), ?_⟩
      have := Int.tmod_lt_of_pos (l.getD d.a.toNat default + l.getD d.b.toNat default) (b := 100) (by omega)
      omega
    · exact h
theorem SysI.deed {p : DProg} {s : DSys} (h : SysI p s) {t : Nat} (ht : t < s.tasks.length) (hs : (tk s t).stage = 1) : SysI p (deedS s t (actAt p (tk s t)).deeds) := by
  have hx := h.ht t ht
  unfold deedS
  simp only
  split
  · split
    · exact h.end_ ht (by omega) _
    · rename_i _ hp
      exact h.set ht (hx.at_ (by omega) (k := 2) (a := 0) (by omega) ⟨by omega, by omega, by omega, by omega, by omega, by omega⟩ (tk s t).when) rfl (h.hs t ht)
  · rename_i ha
    have ha : (tk s t).at_ < (actAt p (tk s t)).deeds.length := by omega
    have hd := h.deedP_ ht hs ha
    split
    · rename_i k
      exact h.load ht hs ha (by omega)
    · split
      · rename_i k1 k2
        have hn := hx.hr.2 ((actAt p (tk s t)).deeds.getD (tk s t).at_.toNat default).b.toNat (by omega)
        exact h.set ht (hx.deed hs ha hx.hr hx.hre (listOk_add hx.hpu ⟨by show 0 ≤ ((actAt p (tk s t)).deeds.getD (tk s t).at_.toNat default).a; omega, by show ((actAt p (tk s t)).deeds.getD (tk s t).at_.toNat default).a ≤ _; omega, hn.1, hn.2⟩)) rfl (h.hs t ht)
      · split
        · split
          · have hA := h.again ht
            have htA : t < (againS s t).tasks.length := by unfold againS; rw [setT_len]; exact ht
            have hxA := hA.ht t htA
            exact hA.set htA ⟨hxA.hb, hxA.hpc, hxA.hst, hxA.hsp, hxA.hw, hxA.hr, hxA.ho, hxA.hre, hxA.hpu, hxA.hat⟩ rfl (hA.hs t htA)
          · exact h.set ht (hx.deed hs ha hx.hr hx.hre hx.hpu) rfl (h.hs t ht)
        · exact h.set ht (hx.deed hs ha (regsP_F hx.hr hd) hx.hre hx.hpu) rfl (h.hs t ht)
theorem SysI.clock {p : DProg} {s : DSys} (h : SysI p s) (hc : s.clock < 200) : SysI p { s with clock := s.clock + 1 } :=
  ⟨h.hp, h.hc, h.hcn, by have := h.hcl; show 0 ≤ s.clock + 1 ∧ s.clock + 1 ≤ 200; omega, h.ht, h.hu, fun k hk => by have := h.hs k hk; show 0 ≤ (tk s k).since ∧ (tk s k).since ≤ s.clock + 1; omega⟩
theorem SysI.try_ {p : DProg} {s : DSys} (h : SysI p s) {t : Nat} (ht : t < s.tasks.length) (hcl : s.clock < 200) (h1 : (tk s t).pc < (actsOf p (tk s t).body).length) (h2 : (actAt p (tk s t)).kind = 1) : SysI p (tryS s t (actAt p (tk s t)).deeds) := by
  have hx := h.ht t ht
  have hst := hx.hst
  unfold tryS
  simp only
  split
  · exact h.begin ht h1 h2
  · split
    · exact h.deed ht (by assumption)
    · split
      · exact h.lock ht (by assumption)
      · split
        · rename_i hs
          have h3 := hx.hat.2.2.2.2.2 (.inl hs)
          exact (h.clock hcl).set ht (hx.at_ (by omega) (k := 4) (a := 0) (by omega) ⟨by omega, by omega, by omega, by omega, by omega, fun _ => h3⟩ (s.clock + 1)) rfl ((h.clock hcl).hs t ht)
        · split
          · exact h.check ht (by assumption)
          · exact h.write ht (by omega)
theorem newTask_I {p : DProg} {b u : Int} (hb : 0 ≤ b ∧ b ≤ p.bodies.length - 1) : TaskI p (newTask b u) := by
  have h3 : regsP [0, 0, 0] := ⟨rfl, fun j hj => by rcases j with _ | _ | _ | j <;> first | exact ⟨by decide, by decide⟩ | omega⟩
  exact ⟨hb, ⟨Int.le_refl _, by show (0 : Int) ≤ _; omega⟩, ⟨Int.le_refl _, by show (0 : Int) ≤ 5; omega⟩, fun e => absurd rfl e, fun e => (by have e : (0 : Int) = 1 := e; omega), h3, h3, listOk_nil _, listOk_nil _, ⟨Int.le_refl _, fun _ => rfl, fun e => (by have e : (0:Int) = 1 := e; omega), fun e => (by have e : (0:Int) = 4 := e; omega), fun e => (by have e : (0:Int) = 2 ∨ (0:Int) = 5 := e; omega), fun e => (by have e : (0:Int) = 3 ∨ (0:Int) = 4 := e; omega)⟩⟩
theorem SysI.app {p : DProg} {s : DSys} (h : SysI p s) {t : Nat} (ht : t < s.tasks.length) {l : List Int} (hl : ∀ b ∈ l, 0 ≤ b ∧ b ≤ (p.bodies.length : Int) - 1) : SysI p { s with tasks := s.tasks ++ l.map fun b => newTask b t } := by
  have key : ∀ k, k < (s.tasks ++ l.map fun b => newTask b t).length → (k < s.tasks.length ∧ (s.tasks ++ l.map fun b => newTask b t).getD k default = tk s k) ∨ (s.tasks.length ≤ k ∧ ∃ b, (0 ≤ b ∧ b ≤ (p.bodies.length : Int) - 1) ∧ (s.tasks ++ l.map fun b => newTask b t).getD k default = newTask b t) := by
    intro k hk
    rw [getD_app]
    split
    · exact .inl ⟨by assumption, rfl⟩
    · rename_i hge
      refine .inr ⟨by omega, ?_⟩
      have hk' : k - s.tasks.length < l.length := by rw [List.length_append, List.length_map] at hk; omega
      exact ⟨l.getD (k - s.tasks.length) default, hl _ (getD_mem default hk'), getD_map _ _ hk'⟩
  refine ⟨h.hp, h.hc, h.hcn, h.hcl, fun k hk => ?_, fun k hk => ?_, fun k hk => ?_⟩
  all_goals
    rcases key k hk with ⟨h1, e⟩ | ⟨h1, b, hb, e⟩
  · show TaskI p ((s.tasks ++ l.map fun b => newTask b t).getD k default); rw [e]; exact h.ht k h1
  · show TaskI p ((s.tasks ++ l.map fun b => newTask b t).getD k default); rw [e]; exact newTask_I hb
  · show ((s.tasks ++ l.map fun b => newTask b t).getD k default).up < k; rw [e]; exact h.hu k h1
  · show ((s.tasks ++ l.map fun b => newTask b t).getD k default).up < k; rw [e]; show (t : Int) < k; omega
  · have := h.hs k h1
    have e2 : tk { s with tasks := s.tasks ++ l.map fun b => newTask b t } k = tk s k := e
    rw [e2]; exact this
  · have e2 : tk { s with tasks := s.tasks ++ l.map fun b => newTask b t } k = newTask b t := e
    rw [e2]; exact ⟨Int.le_refl _, h.hcl.1⟩
theorem SysI.fork {p : DProg} {s : DSys} (h : SysI p s) {t : Nat} (ht : t < s.tasks.length) (h1 : (tk s t).pc < (actsOf p (tk s t).body).length) (h2 : (actAt p (tk s t)).kind = 2) : SysI p (forkS s t (actAt p (tk s t)).kids) := by
  have hx := h.ht t ht
  have ha := (h.body hx).2 (tk s t).pc.toNat (by have := hx.hpc; omega)
  have hk : (actAt p (tk s t)).kids.length ≤ 2 ∧ ∀ k, k < (actAt p (tk s t)).kids.length → (tk s t).body + 1 ≤ (actAt p (tk s t)).kids.getD k default ∧ (actAt p (tk s t)).kids.getD k default ≤ (p.bodies.length : Int) - 1 := actOk_kids ha
  have hl : ∀ b ∈ (actAt p (tk s t)).kids, 0 ≤ b ∧ b ≤ (p.bodies.length : Int) - 1 := fun b hb => by
    obtain ⟨j, hj, rfl⟩ := mem_getD default hb
    have := hk.2 j hj
    have := hx.hb
    omega
  have hA := h.app ht hl
  have e : forkA s t (actAt p (tk s t)).kids (actAt p (tk s t)).kids.length = { s with tasks := s.tasks ++ (actAt p (tk s t)).kids.map fun b => newTask b t } := by
    unfold forkA; rw [List.take_length]
  unfold forkS
  rw [e]
  have e2 : tk { s with tasks := s.tasks ++ (actAt p (tk s t)).kids.map fun b => newTask b t } t = tk s t := by
    show (s.tasks ++ _).getD t default = _
    rw [getD_app, if_pos ht]
  have htA : t < ({ s with tasks := s.tasks ++ (actAt p (tk s t)).kids.map fun b => newTask b t } : DSys).tasks.length := by
    show t < (s.tasks ++ _).length; rw [List.length_append]; omega
  exact hA.set htA (hx.way fun _ => ⟨h1, h2⟩) (by rw [e2]) (h.hs t ht)
theorem endS_len {s : DSys} {t : Nat} {w : Int} : (endS s t w).tasks.length = s.tasks.length := by unfold endS; rw [setT_len]; rfl
theorem againS_len {s : DSys} {t : Nat} : (againS s t).tasks.length = s.tasks.length := by unfold againS; rw [setT_len]; rfl
theorem writeS_len {s : DSys} {t : Nat} : (writeS s t).tasks.length = s.tasks.length := by
  unfold writeS
  split
  · rw [endS_len, setT_len]; rfl
  · rw [setT_len]; rfl
theorem writesF_len : ∀ (f : Nat) {s : DSys} {t : Nat}, (writesF f s t).tasks.length = s.tasks.length
  | 0, _, _ => rfl
  | f + 1, s, t => by
    unfold writesF
    split
    · rw [writesF_len f, writeS_len]
    · rfl
theorem SysI.writes {p : DProg} : ∀ (f : Nat) {s : DSys} (h : SysI p s) {t : Nat} (ht : t < s.tasks.length), SysI p (writesF f s t)
  | 0, _, h, _, _ => h
  | f + 1, s, h, t, ht => by
    unfold writesF
    split
    · exact SysI.writes f (h.write ht (by assumption)) (by rw [writeS_len]; exact ht)
    · exact h
theorem offT_len {s : DSys} {t : Nat} : (offT s t).tasks.length = s.tasks.length := by
  unfold offT
  split
  · rfl
  · simp only [setT_len]
    split
    · rw [againS_len, writesF_len]
    · rw [writesF_len]
theorem SysI.offT {p : DProg} {s : DSys} (h : SysI p s) {t : Nat} (ht : t < s.tasks.length) : SysI p (offT s t) := by
  unfold AY.offT
  split
  · exact h
  · have h1 := SysI.writes ((tk s t).puts.length + 1) h ht
    have ht1 : t < (writesF ((tk s t).puts.length + 1) s t).tasks.length := by rw [writesF_len]; exact ht
    simp only
    split
    · exact (h1.again ht1).way (by rw [againS_len]; exact ht1) (w := 4) (fun e => by cases e)
    · exact h1.way ht1 (w := 4) (fun e => by cases e)
theorem offL_inv {P : DSys → Prop} {g : DSys → Nat → DSys} {t : Nat} (hg : ∀ s k, P s → P (g s k)) (n : Nat) {s : DSys} (h : P s) : P (offL g s t n) := by
  unfold offL
  induction n with
  | zero => exact h
  | succ n ih =>
    rw [List.range_succ, List.foldl_append]
    simp only [List.foldl_cons, List.foldl_nil]
    unfold offK
    split
    · exact hg _ _ ih
    · exact ih
theorem offF_len : ∀ (f : Nat) {s : DSys} {t : Nat}, (offF f s t).tasks.length = s.tasks.length
  | 0, _, _ => rfl
  | f + 1, s, t => by
    unfold offF
    rw [offT_len]
    exact offL_inv (P := fun x => x.tasks.length = s.tasks.length) (fun s' k h => by rw [offF_len f]; exact h) _ rfl
end Go.Proofs.AY
