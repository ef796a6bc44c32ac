/- Plain words, and contracts of the program's functions. Conditions: as each theorem tells. -/
import Derived.Test.YteippbbcihgabaaAyB04
set_option linter.unusedVariables false
set_option linter.unusedSimpArgs false
set_option linter.unusedSectionVars false
/- AY, part Qj: plain words: whose a log's entries are, and how many tasks there get to be. -/
namespace Go.Proofs.AY
open Go
/-! ## What tasks may still come to -/
theorem sumL_nonneg : ∀ {l : List Int}, (∀ x ∈ l, 0 ≤ x) → 0 ≤ sumL l
  | [], _ => Int.le_refl _
  | x :: l, h => by
    have h1 := h x List.mem_cons_self
    have h2 := sumL_nonneg (l := l) fun y hy => h y (List.mem_cons_of_mem _ hy)
    simp only [sumL]; omega
theorem treeF_nonneg {p : DProg} : ∀ (f b : Nat), 0 ≤ treeF f p b
  | 0, _ => by simp [treeF]
  | f + 1, b => by
    have := sumL_nonneg (l := (p.bodies.getD b default).map fun a => sumL (a.kids.map fun k => treeF f p k.toNat)) (by
      intro x hx
      obtain ⟨a, _, rfl⟩ := List.mem_map.1 hx
      refine sumL_nonneg fun y hy => ?_
      obtain ⟨k, _, rfl⟩ := List.mem_map.1 hy
      exact treeF_nonneg f _)
    simp only [treeF]; omega
theorem treeF_deep {p : DProg} (h : formOk p = true) : ∀ (f b : Nat), b < p.bodies.length → p.bodies.length ≤ b + f → treeF (f + 1) p b = treeF f p b
  | 0, b, h1, h2 => by omega
  | f + 1, b, h1, h2 => by
    obtain ⟨-, ha⟩ := formOk_body h h1
    have key : ((p.bodies.getD b default).map fun a => sumL (a.kids.map fun k => treeF (f + 1) p k.toNat)) = (p.bodies.getD b default).map fun a => sumL (a.kids.map fun k => treeF f p k.toNat) := by
      refine List.map_congr_left fun a hm => ?_
      obtain ⟨j, hj, rfl⟩ := mem_getD default hm
      obtain ⟨-, hk⟩ := actOk_kids (ha j hj)
      refine congrArg sumL (List.map_congr_left fun k hm => ?_)
      obtain ⟨i, hi, rfl⟩ := mem_getD default hm
      have := hk i hi
      exact treeF_deep h f _ (by omega) (by omega)
    rw [treeF, key]; rfl
/-- How many tasks an act begins, with all that those begin. -/
def kidsum (p : DProg) (a : DAct) : Int := sumL (a.kids.map fun k => treeF 4 p k.toNat)
theorem kidsum_nonneg {p : DProg} {a : DAct} : 0 ≤ kidsum p a := sumL_nonneg fun y hy => by
  obtain ⟨k, _, rfl⟩ := List.mem_map.1 hy
  exact treeF_nonneg 4 _
def restOf (p : DProg) (b : Int) (n : Nat) : Int := sumL (((actsOf p b).drop n).map (kidsum p))
theorem restOf_nonneg {p : DProg} {b : Int} {n : Nat} : 0 ≤ restOf p b n := sumL_nonneg fun y hy => by
  obtain ⟨k, _, rfl⟩ := List.mem_map.1 hy
  exact kidsum_nonneg
theorem restOf_at {p : DProg} {b : Int} {n : Nat} (h : n < (actsOf p b).length) : restOf p b n = kidsum p ((actsOf p b).getD n default) + restOf p b (n + 1) := by
  unfold restOf
  have e : (actsOf p b).getD n default = (actsOf p b)[n] := by rw [List.getD_eq_getElem?_getD, List.getElem?_eq_getElem h]; rfl
  rw [List.drop_eq_getElem_cons h, List.map_cons, sumL, e]
theorem restOf_succ {p : DProg} {b : Int} {n : Nat} : restOf p b (n + 1) ≤ restOf p b n := by
  by_cases h : n < (actsOf p b).length
  · have := restOf_at h
    have := kidsum_nonneg (p := p) (a := (actsOf p b).getD n default)
    omega
  · have e : restOf p b (n + 1) = 0 := by unfold restOf; rw [List.drop_eq_nil_of_le (by omega)]; rfl
    have := restOf_nonneg (p := p) (b := b) (n := n)
    omega
theorem restOf_le {p : DProg} {b : Int} {n : Nat} : ∀ k, restOf p b (n + k) ≤ restOf p b n
  | 0 => Int.le_refl _
  | k + 1 => Int.le_trans (restOf_succ (n := n + k)) (restOf_le k)
/-- A task, and all that it may still begin. -/
def cost (p : DProg) (x : Task) : Int := 1 + if x.way = 0 then restOf p x.body x.pc.toNat else if x.way = 1 then restOf p x.body (x.pc.toNat + 1) else 0
theorem cost_pos {p : DProg} {x : Task} : 1 ≤ cost p x := by
  unfold cost
  have h1 := restOf_nonneg (p := p) (b := x.body) (n := x.pc.toNat)
  have h2 := restOf_nonneg (p := p) (b := x.body) (n := x.pc.toNat + 1)
  split
  · omega
  · split <;> omega
theorem cost_le {p : DProg} {x y : Task} (hb : y.body = x.body) (hw : y.way = x.way) (hp : x.pc ≤ y.pc) : cost p y ≤ cost p x := by
  obtain ⟨k, hk⟩ : ∃ k, y.pc.toNat = x.pc.toNat + k := ⟨y.pc.toNat - x.pc.toNat, by omega⟩
  unfold cost
  rw [hb, hw, hk]
  have h1 := restOf_le (p := p) (b := x.body) (n := x.pc.toNat) k
  have h2 := restOf_le (p := p) (b := x.body) (n := x.pc.toNat + 1) k
  rw [show x.pc.toNat + k + 1 = x.pc.toNat + 1 + k by omega]
  split
  · omega
  · split <;> omega
theorem cost_off {p : DProg} {x y : Task} (h0 : y.way ≠ 0) (h1 : y.way ≠ 1) : cost p y ≤ cost p x := by
  have := cost_pos (p := p) (x := x)
  unfold cost at *
  rw [if_neg (c := y.way = 0) h0, if_neg (c := y.way = 1) h1]; omega
def costs (p : DProg) (l : List Task) : Int := sumL (l.map (cost p))
theorem costs_set {p : DProg} : ∀ {l : List Task} {t : Nat} {x : Task}, t < l.length → costs p (l.set t x) + cost p (l.getD t default) = costs p l + cost p x
  | [], _, _, h => by cases h
  | y :: l, 0, x, _ => by simp [costs, sumL]; omega
  | y :: l, t + 1, x, h => by
    have := costs_set (p := p) (l := l) (t := t) (x := x) (by simpa using h)
    simp only [costs, List.set_cons_succ, List.map_cons, sumL, List.getD_cons_succ] at *
    omega
theorem costs_app {p : DProg} (l m : List Task) : costs p (l ++ m) = costs p l + costs p m := by simp [costs, sumL_append]
theorem costs_len {p : DProg} : ∀ (l : List Task), (l.length : Int) ≤ costs p l
  | [] => Int.le_refl _
  | x :: l => by
    have h1 := costs_len (p := p) l
    have h2 := cost_pos (p := p) (x := x)
    simp only [costs, List.map_cons, sumL, List.length_cons] at *
    omega
/-! ## Whose a log's entries are -/
structure LogI (s : DSys) : Prop where
  i : ∀ x ∈ s.log, 0 ≤ x.task ∧ x.task < s.tasks.length ∧ x.act < (tk s x.task.toNat).pc
  a : s.log.Pairwise fun x y => x.task = y.task → x.act < y.act
structure LA (p : DProg) (s s' : DSys) : Prop where
  l : LogI s → LogI s'
  c : costs p s'.tasks ≤ costs p s.tasks
theorem LA.refl {p : DProg} (s : DSys) : LA p s s := ⟨id, Int.le_refl _⟩
theorem LA.trans {p : DProg} {s s' s'' : DSys} (h : LA p s s') (h' : LA p s' s'') : LA p s s'' := ⟨fun h0 => h'.l (h.l h0), Int.le_trans h'.c h.c⟩
theorem LogI.same {s s' : DSys} (h : LogI s) (h1 : s'.log = s.log) (h2 : s'.tasks = s.tasks) : LogI s' := by
  refine ⟨fun x hx => ?_, by rw [h1]; exact h.a⟩
  have := h.i x (by rw [h1] at hx; exact hx)
  unfold tk; rw [h2]; exact this
theorem LA.same {p : DProg} {s s' : DSys} (h1 : s'.log = s.log) (h2 : s'.tasks = s.tasks) : LA p s s' := ⟨fun h => h.same h1 h2, by rw [h2]; exact Int.le_refl _⟩
theorem LogI.set {s : DSys} (h : LogI s) {t : Nat} {x : Task} (ht : t < s.tasks.length) (hx : (tk s t).pc ≤ x.pc) : LogI (setT s t x) := by
  refine ⟨fun y hy => ?_, h.a⟩
  obtain ⟨h1, h2, h3⟩ := h.i y hy
  refine ⟨h1, by rw [setT_len]; exact h2, ?_⟩
  by_cases e : y.task.toNat = t
  · rw [e, tk_setT ht]; rw [e] at h3; omega
  · rw [tk_ne e]; exact h3
theorem LA.set {p : DProg} {s : DSys} {t : Nat} {x : Task} (ht : t < s.tasks.length) (hx : (tk s t).pc ≤ x.pc) (hc : cost p x ≤ cost p (tk s t)) : LA p s (setT s t x) := by
  refine ⟨fun h => h.set ht hx, ?_⟩
  have := costs_set (p := p) (x := x) ht
  show costs p (s.tasks.set t x) ≤ _
  have hc : cost p x ≤ cost p (s.tasks.getD t default) := hc
  omega
theorem LA.set' {p : DProg} {s s1 : DSys} {t : Nat} {x : Task} (h : LA p s s1) (ht : t < s1.tasks.length) (hx : (tk s1 t).pc ≤ x.pc) (hc : cost p x ≤ cost p (tk s1 t)) : LA p s (setT s1 t x) := h.trans (LA.set ht hx hc)
theorem LA.again {p : DProg} {s : DSys} {t : Nat} (ht : t < s.tasks.length) : LA p s (againS s t) :=
  LA.set' (s1 := freeS s t) (LA.same rfl rfl) ht (by exact Int.le_refl _) (cost_le rfl rfl (Int.le_refl _))
theorem LA.end_ {p : DProg} {s : DSys} {t : Nat} {w : Int} (ht : t < s.tasks.length) : LA p s (endS s t w) := by
  refine ⟨fun h => ?_, ?_⟩
  · have hl : LogI (setT s t (endT (tk s t))) := h.set ht (by show (tk s t).pc ≤ (tk s t).pc + 1; omega)
    have e1 : tk (endS s t w) t = endT (tk s t) := tk_setT (s := logS s (endE s t w)) ht
    refine ⟨fun x hx => ?_, ?_⟩
    · have hx : x ∈ s.log ++ [endE s t w] := hx
      rcases List.mem_append.1 hx with h1 | h1
      · exact hl.i x h1
      · rw [List.mem_singleton] at h1
        subst h1
        refine ⟨by show (0:Int) ≤ (t : Int); omega, ?_, ?_⟩
        · show (t : Int) < ((s.tasks.set t (endT (tk s t))).length : Int)
          rw [List.length_set]; omega
        · show (tk s t).pc < (tk (endS s t w) t).pc
          rw [e1]; show (tk s t).pc < (tk s t).pc + 1; omega
    · show (s.log ++ [endE s t w]).Pairwise _
      rw [List.pairwise_append]
      refine ⟨h.a, List.pairwise_singleton _ _, fun x hx y hy => ?_⟩
      rw [List.mem_singleton] at hy
      subst hy
      intro e
      obtain ⟨h1, h2, h3⟩ := h.i x hx
      have e : x.task = (t : Int) := e
      rw [e] at h3
      exact h3
  · have := costs_set (p := p) (l := s.tasks) (t := t) (x := endT (tk s t)) ht
    have hc : cost p (endT (tk s t)) ≤ cost p (s.tasks.getD t default) := cost_le rfl rfl (by show (tk s t).pc ≤ (tk s t).pc + 1; omega)
    show costs p (s.tasks.set t (endT (tk s t))) ≤ _
    omega
theorem LA.write {p : DProg} {s : DSys} {t : Nat} (ht : t < s.tasks.length) : LA p s (writeS s t) := by
  have h1 : LA p s (setT (writeC s t) t { tk s t with at_ := (tk s t).at_ + 1 }) := LA.set' (s1 := writeC s t) (LA.same rfl rfl) ht (by exact Int.le_refl _) (cost_le rfl rfl (Int.le_refl _))
  unfold writeS
  split
  · exact h1.trans (LA.end_ (by rw [setT_len]; exact ht))
  · exact h1
theorem LA.writes {p : DProg} : ∀ (f : Nat) {s : DSys} {t : Nat} (ht : t < s.tasks.length), LA p s (writesF f s t)
  | 0, s, _, _ => LA.refl s
  | f + 1, s, t, ht => by
    unfold writesF
    split
    · exact (LA.write ht).trans (LA.writes f (by rw [writeS_len]; exact ht))
    · exact LA.refl s
theorem LA.offT {p : DProg} {s : DSys} {t : Nat} (ht : t < s.tasks.length) : LA p s (offT s t) := by
  unfold AY.offT
  split
  · exact LA.refl s
  · have h1 := LA.writes (p := p) ((tk s t).puts.length + 1) ht
    have ht1 : t < (writesF ((tk s t).puts.length + 1) s t).tasks.length := by rw [writesF_len]; exact ht
    simp only
    split
    · exact (h1.trans (LA.again ht1)).trans (LA.set (by rw [againS_len]; exact ht1) (Int.le_refl _) (cost_off (by show (4:Int) ≠ 0; omega) (by show (4:Int) ≠ 1; omega)))
    · exact h1.trans (LA.set ht1 (Int.le_refl _) (cost_off (by show (4:Int) ≠ 0; omega) (by show (4:Int) ≠ 1; omega)))
theorem LA.offF {p : DProg} : ∀ (f : Nat) {s : DSys} {t : Nat} (ht : t < s.tasks.length), LA p s (offF f s t)
  | 0, s, _, _ => LA.refl s
  | f + 1, s, t, ht => by
    unfold AY.offF
    have key : ∀ n, n ≤ s.tasks.length → LA p s (AY.offL (AY.offF f) s t n) ∧ (AY.offL (AY.offF f) s t n).tasks.length = s.tasks.length := by
      intro n
      induction n with
      | zero => exact fun _ => ⟨LA.refl s, rfl⟩
      | succ n ih =>
        intro hn
        obtain ⟨h1, h2⟩ := ih (by omega)
        rw [offL_succ]
        unfold offK
        split
        · exact ⟨h1.trans (LA.offF f (by omega)), by rw [offF_len, h2]⟩
        · exact ⟨h1, h2⟩
    obtain ⟨h1, h2⟩ := key s.tasks.length (Nat.le_refl _)
    exact h1.trans (LA.offT (by omega))
theorem LA.offL {p : DProg} (f : Nat) {s : DSys} {t : Nat} : ∀ (n : Nat), n ≤ s.tasks.length → LA p s (AY.offL (AY.offF f) s t n) ∧ (AY.offL (AY.offF f) s t n).tasks.length = s.tasks.length
  | 0, _ => ⟨LA.refl s, rfl⟩
  | n + 1, hn => by
    obtain ⟨h1, h2⟩ := LA.offL (p := p) f (s := s) (t := t) n (by omega)
    rw [offL_succ]
    unfold offK
    split
    · exact ⟨h1.trans (LA.offF f (by omega)), by rw [offF_len, h2]⟩
    · exact ⟨h1, h2⟩
theorem LA.awaits {p : DProg} {s : DSys} {t : Nat} (ht : t < s.tasks.length) (hw : (tk s t).way = 1) (hp : 0 ≤ (tk s t).pc) : LA p s (awaitsS s t) := by
  unfold awaitsS
  split
  · have e : nextPc (wayS s t 0) t = setT s t { tk s t with way := 0, pc := (tk s t).pc + 1 } := by
      unfold nextPc wayS
      rw [setT_setT, tk_setT ht]
    rw [e]
    refine LA.set ht (by show (tk s t).pc ≤ (tk s t).pc + 1; omega) ?_
    have e2 : ((tk s t).pc + 1).toNat = (tk s t).pc.toNat + 1 := by omega
    show 1 + (if (0:Int) = 0 then restOf p (tk s t).body ((tk s t).pc + 1).toNat else _) ≤ cost p (tk s t)
    unfold cost
    rw [if_pos rfl, e2, if_neg (by omega), if_pos hw]; exact Int.le_refl _
  · obtain ⟨h1, h2⟩ := LA.offL (p := p) s.tasks.length (s := s) (t := t) s.tasks.length (Nat.le_refl _)
    exact h1.trans (LA.set (by omega) (Int.le_refl _) (cost_off (by show (3:Int) ≠ 0; omega) (by show (3:Int) ≠ 1; omega)))
theorem LA.deed {p : DProg} {s : DSys} {t : Nat} (ht : t < s.tasks.length) (ds : List Deed) : LA p s (deedS s t ds) := by
  have key : ∀ x : Task, x.body = (tk s t).body → x.way = (tk s t).way → x.pc = (tk s t).pc → LA p s (setT s t x) := fun x h1 h2 h3 => LA.set ht (by omega) (cost_le h1 h2 (by omega))
  unfold deedS
  simp only
  split
  · split
    · exact LA.end_ ht
    · exact key _ rfl rfl rfl
  · split
    · unfold loadS
      split
      · exact key _ rfl rfl rfl
      · split
        · exact LA.again ht
        · exact key _ rfl rfl rfl
    · split
      · exact key _ rfl rfl rfl
      · split
        · split
          · exact (LA.again ht).trans (LA.set (by rw [againS_len]; exact ht) (Int.le_refl _) (cost_le rfl rfl (Int.le_refl _)))
          · exact key _ rfl rfl rfl
        · exact key _ rfl rfl rfl
theorem LA.try_ {p : DProg} {s : DSys} {t : Nat} (ht : t < s.tasks.length) (ds : List Deed) : LA p s (tryS s t ds) := by
  have key : ∀ (s1 : DSys) (x : Task), s1.log = s.log → s1.tasks = s.tasks → x.body = (tk s t).body → x.way = (tk s t).way → x.pc = (tk s t).pc → LA p s (setT s1 t x) := fun s1 x g1 g2 h1 h2 h3 => by
    have e : tk s1 t = tk s t := by unfold tk; rw [g2]
    exact LA.set' (LA.same g1 g2) (by rw [g2]; exact ht) (by rw [e]; omega) (cost_le (by rw [e]; exact h1) (by rw [e]; exact h2) (by rw [e]; omega))
  unfold tryS
  simp only
  split
  · exact key _ _ rfl rfl rfl rfl rfl
  · split
    · exact LA.deed ht ds
    · split
      · unfold lockS
        split
        · exact LA.again ht
        · split
          · exact key _ _ rfl rfl rfl rfl rfl
          · exact key _ _ rfl rfl rfl rfl rfl
      · split
        · exact key _ _ rfl rfl rfl rfl rfl
        · split
          · unfold checkS
            split
            · exact key _ _ rfl rfl rfl rfl rfl
            · split
              · exact LA.again ht
              · exact key _ _ rfl rfl rfl rfl rfl
          · exact LA.write ht
theorem costs_new {p : DProg} (h : formOk p = true) (t : Int) : ∀ (kids : List Int), (∀ k ∈ kids, 1 ≤ k ∧ k ≤ p.bodies.length - 1) → costs p (kids.map fun b => newTask b t) = sumL (kids.map fun k => treeF 4 p k.toNat)
  | [], _ => rfl
  | k :: kids, hk => by
    have ih := costs_new h t kids fun x hx => hk x (List.mem_cons_of_mem _ hx)
    have h1 := hk k List.mem_cons_self
    have h2 := formOk_len h
    have e : cost p (newTask k t) = treeF 5 p k.toNat := by
      unfold cost
      rw [if_pos (show (newTask k t).way = 0 from rfl)]
      rfl
    simp only [costs, List.map_cons, sumL] at *
    rw [ih, e, treeF_deep h 4 _ (by omega) (by omega)]
theorem LA.fork {p : DProg} {s : DSys} (hI : SysI p s) {t : Nat} (ht : t < s.tasks.length) (hw : (tk s t).way = 0) (hpc : (tk s t).pc < (actsOf p (tk s t).body).length) : LA p s (forkS s t (actAt p (tk s t)).kids) := by
  have hf : formOk p = true := by
    have hp := hI.hp
    unfold progOk at hp
    rw [Bool.and_eq_true] at hp; exact hp.1
  have hx := hI.ht t ht
  have ha := (hI.body hx).2 (tk s t).pc.toNat (by have := hx.hpc; omega)
  have hk := (actOk_kids ha).2
  have hnew := costs_new hf (t : Int) (actAt p (tk s t)).kids (fun k hk' => by
    obtain ⟨i, hi, rfl⟩ := mem_getD default hk'
    have h1 : (tk s t).body + 1 ≤ (actAt p (tk s t)).kids.getD i default ∧ (actAt p (tk s t)).kids.getD i default ≤ p.bodies.length - 1 := hk i hi
    have := hx.hb
    omega)
  have htk : ∀ k, k < s.tasks.length → tk (forkA s t (actAt p (tk s t)).kids (actAt p (tk s t)).kids.length) k = tk s k := fun k hk => by
    show (s.tasks ++ _).getD k default = _
    rw [getD_app, if_pos hk]
  have hl : t < (forkA s t (actAt p (tk s t)).kids (actAt p (tk s t)).kids.length).tasks.length := by show t < (s.tasks ++ _).length; rw [List.length_append]; omega
  refine ⟨fun h => ?_, ?_⟩
  · have h1 : LogI (forkA s t (actAt p (tk s t)).kids (actAt p (tk s t)).kids.length) := by
      refine ⟨fun x hx => ?_, h.a⟩
      obtain ⟨h1, h2, h3⟩ := h.i x hx
      refine ⟨h1, by show x.task < ((s.tasks ++ _).length : Int); rw [List.length_append]; omega, ?_⟩
      rw [htk _ (by omega)]; exact h3
    unfold forkS
    refine h1.set hl ?_
    rw [htk t ht]; exact Int.le_refl _
  · have h1 := costs_set (p := p) (l := (forkA s t (actAt p (tk s t)).kids (actAt p (tk s t)).kids.length).tasks) (t := t) (x := { tk s t with way := 1 }) hl
    have h2 : costs p (forkA s t (actAt p (tk s t)).kids (actAt p (tk s t)).kids.length).tasks = costs p s.tasks + costs p ((actAt p (tk s t)).kids.map fun b => newTask b t) := by
      show costs p (s.tasks ++ _) = _
      rw [costs_app, List.take_length]
    have h3 : (forkA s t (actAt p (tk s t)).kids (actAt p (tk s t)).kids.length).tasks.getD t default = tk s t := htk t ht
    have h4 : cost p { tk s t with way := 1 } = 1 + restOf p (tk s t).body ((tk s t).pc.toNat + 1) := rfl
    have h5 : cost p (tk s t) = 1 + restOf p (tk s t).body (tk s t).pc.toNat := by unfold cost; rw [if_pos hw]
    have h6 := restOf_at (p := p) (b := (tk s t).body) (n := (tk s t).pc.toNat) (by have := hx.hpc; omega)
    have h7 : kidsum p ((actsOf p (tk s t).body).getD (tk s t).pc.toNat default) = sumL ((actAt p (tk s t)).kids.map fun k => treeF 4 p k.toNat) := rfl
    show costs p ((forkA s t (actAt p (tk s t)).kids (actAt p (tk s t)).kids.length).tasks.set t { tk s t with way := 1 }) ≤ _
    rw [h3] at h1
    omega
theorem LA.step {p : DProg} {s : DSys} (h : SysI p s) {t : Nat} (ht : t < s.tasks.length) (hw : (tk s t).way = 0 ∨ (tk s t).way = 1) : LA p s (stepS p s t) := by
  have hx := h.ht t ht
  have off : ∀ w : Int, w ≠ 0 → w ≠ 1 → LA p s (wayS s t w) := fun w h0 h1 => LA.set ht (Int.le_refl _) (cost_off h0 h1)
  unfold stepS
  simp only
  split
  · exact LA.awaits ht (by assumption) hx.hpc.1
  · rename_i hw1
    have hw0 : (tk s t).way = 0 := by omega
    split
    · exact off 2 (by omega) (by omega)
    · split
      · exact LA.try_ ht _
      · split
        · exact LA.fork h ht hw0 (by omega)
        · split
          · exact off 3 (by omega) (by omega)
          · exact LA.set ht (by show (tk s t).pc ≤ (tk s t).pc + 1; omega) (cost_le rfl rfl (by show (tk s t).pc ≤ (tk s t).pc + 1; omega))
theorem LA.do_ {p : DProg} {s : DSys} (h : SysI p s) (t : Int) : LA p s (doS p s t) := by
  unfold doS
  split
  · rename_i hb
    obtain ⟨h1, h2, h3⟩ := doB_at hb
    refine LA.step h h2 ?_
    unfold readyB at h3
    simp only at h3
    split at h3
    · cases h3
    · split at h3
      · exact .inl (by assumption)
      · split at h3
        · exact .inr (by assumption)
        · cases h3
  · exact LA.refl s
theorem LA.run {p : DProg} : ∀ {ts : List Int} {s : DSys}, SysI p s → LA p s (runS p s ts)
  | [], s, _ => LA.refl s
  | t :: ts, s, h => (LA.do_ h t).trans (LA.run (ts := ts) (h.do_ t).1)
/-- A log whose entries are of tasks 0 to 6, and whose entries of one task stand in the order of their acts. -/
def logT (L : List Entry) : Prop := (∀ x ∈ L, 0 ≤ x.task ∧ x.task ≤ 6) ∧ L.Pairwise fun x y => x.task = y.task → x.act < y.act
theorem logT_new {p : DProg} (hp : progOk p = true) {ts : List Int} : logT (runS p (sysNew p) ts).log := by
  obtain ⟨hI, -, -⟩ := SysI.of_ok (sysNew_ok hp)
  have h := LA.run (ts := ts) hI
  have hL := h.l ⟨fun x hx => (by cases hx), List.Pairwise.nil⟩
  have h4 : treeF 4 p 0 ≤ 7 := by
    unfold progOk at hp
    rw [Bool.and_eq_true, decide_eq_true_eq] at hp; exact hp.2
  have hf : formOk p = true := by
    unfold progOk at hp
    rw [Bool.and_eq_true] at hp; exact hp.1
  have h5 := formOk_len hf
  have e : costs p (sysNew p).tasks = treeF 5 p 0 := by
    show cost p (newTask 0 (-1)) + 0 = _
    unfold cost
    rw [if_pos (show (newTask 0 (-1)).way = 0 from rfl), Int.add_zero]
    rfl
  rw [treeF_deep hf 4 0 (by omega) (by omega)] at e
  have hc := h.c
  have hn := costs_len (p := p) (runS p (sysNew p) ts).tasks
  refine ⟨fun x hx => ?_, hL.a⟩
  obtain ⟨h1, h2, -⟩ := hL.i x hx
  omega
theorem runS_append {p : DProg} {s : DSys} {ts us : List Int} : runS p s (ts ++ us) = runS p (runS p s ts) us := by
  unfold runS; rw [List.foldl_append]
theorem logT_bent {l : List Entry} (h : logT l) (hl : 1 < l.length) : logT (bentL l) := by
  obtain ⟨x, l, rfl⟩ : ∃ x m, l = x :: m := by
    cases l with
    | nil => simp at hl
    | cons x m => exact ⟨x, m, rfl⟩
  obtain ⟨h1, h2⟩ := h
  have h3 := List.pairwise_cons.1 h2
  refine ⟨fun y hy => ?_, ?_⟩
  · rcases List.mem_cons.1 (show y ∈ _ :: l from hy) with e | e
    · subst e; exact h1 x List.mem_cons_self
    · exact h1 y (List.mem_cons_of_mem _ e)
  · exact List.pairwise_cons.2 ⟨fun y hy => h3.1 y hy, h3.2⟩
theorem logP.t {P : DProg} {L : List Entry} (h : logP P L) : logT L := by
  obtain ⟨S, R, b, ⟨hp, ts, rfl, -⟩, h2, h3⟩ := h
  have hR : logT R.log := by
    rcases h2 with ⟨-, -, us, rfl, -⟩ | ⟨-, rfl⟩
    · rw [← runS_append]; exact logT_new hp.1
    · exact ⟨fun x hx => (by cases hx), List.Pairwise.nil⟩
  rcases h3 with rfl | ⟨hl, rfl⟩
  · exact hR
  · exact logT_bent hR hl
end Go.Proofs.AY
