/- A symbolic executor over the model, plain words, and contracts of the program's functions, part 4. Conditions: as each theorem tells. -/
import Derived.Test.YteippbbcihgabaaAyB03
set_option linter.unusedVariables false
set_option linter.unusedSimpArgs false
set_option linter.unusedSectionVars false
/- AY, part Q: plain words: what a step, and many of them, keep; how long the log gets. -/
namespace Go.Proofs.AY
open Go

theorem SysI.offF {p : DProg} : ∀ (f : Nat) {s : DSys} (h : SysI p s) {t : Nat} (ht : t < s.tasks.length), SysI p (offF f s t)
  | 0, _, h, _, _ => h
  | f + 1, s, h, t, ht => by
    unfold AY.offF
    have key : ∀ n, n ≤ s.tasks.length → SysI p (offL (AY.offF f) s t n) ∧ (offL (AY.offF f) s t n).tasks.length = s.tasks.length := by
      intro n
      induction n with
      | zero => exact fun _ => ⟨h, rfl⟩
      | succ n ih =>
        intro hn
        obtain ⟨h1, h2⟩ := ih (by omega)
        have e : offL (AY.offF f) s t (n + 1) = offK (AY.offF f) (offL (AY.offF f) s t n) t n := by
          unfold offL
          rw [List.range_succ, List.foldl_append]; rfl
        rw [e]
        unfold offK
        split
        · exact ⟨SysI.offF f h1 (by omega), by rw [offF_len, h2]⟩
        · exact ⟨h1, h2⟩
    obtain ⟨h1, h2⟩ := key s.tasks.length (Nat.le_refl _)
    exact h1.offT (by omega)
theorem offL_succ {g : DSys → Nat → DSys} {s : DSys} {t n : Nat} : offL g s t (n + 1) = offK g (offL g s t n) t n := by
  unfold offL
  rw [List.range_succ, List.foldl_append]; rfl
theorem SysI.offL {p : DProg} (f : Nat) {s : DSys} (h : SysI p s) {t : Nat} : ∀ (n : Nat), n ≤ s.tasks.length → SysI p (offL (AY.offF f) s t n) ∧ (offL (AY.offF f) s t n).tasks.length = s.tasks.length
  | 0, _ => ⟨h, rfl⟩
  | n + 1, hn => by
    obtain ⟨h1, h2⟩ := SysI.offL f h (t := t) n (by omega)
    rw [offL_succ]
    unfold offK
    split
    · exact ⟨SysI.offF f h1 (by omega), by rw [offF_len, h2]⟩
    · exact ⟨h1, h2⟩
theorem TaskI.waits {p : DProg} {x : Task} (h : TaskI p x) (hw : x.way = 1) : x.stage = 0 := by
  have h1 := (h.hw hw).2
  by_cases e : x.stage = 0
  · exact e
  · have h2 := (h.hsp e).2; omega
theorem SysI.nextPc {p : DProg} {s : DSys} (h : SysI p s) {t : Nat} (ht : t < s.tasks.length) (h1 : (tk s t).pc < (actsOf p (tk s t).body).length) (h2 : (tk s t).stage = 0) (h3 : (tk s t).way ≠ 1) : SysI p (nextPc s t) :=
  h.set ht ((h.ht t ht).next h1 h2 h3) rfl (h.hs t ht)
theorem wayS_tk {s : DSys} {t : Nat} {w : Int} (ht : t < s.tasks.length) : tk (wayS s t w) t = { tk s t with way := w } := tk_setT ht
theorem wayS_len {s : DSys} {t : Nat} {w : Int} : (wayS s t w).tasks.length = s.tasks.length := setT_len
theorem nextPc_len {s : DSys} {t : Nat} : (nextPc s t).tasks.length = s.tasks.length := setT_len
theorem SysI.awaits {p : DProg} {s : DSys} (h : SysI p s) {t : Nat} (ht : t < s.tasks.length) (hw : (tk s t).way = 1) : SysI p (awaitsS s t) := by
  have hx := h.ht t ht
  unfold awaitsS
  split
  · have h1 := h.way ht (w := 0) (fun e => by cases e)
    have ht1 : t < (wayS s t 0).tasks.length := by rw [wayS_len]; exact ht
    refine h1.nextPc ht1 ?_ ?_ ?_
    · rw [wayS_tk ht]; exact (hx.hw hw).1
    · rw [wayS_tk ht]; exact hx.waits hw
    · rw [wayS_tk ht]; show (0 : Int) ≠ 1; omega
  · obtain ⟨h1, h2⟩ := SysI.offL s.tasks.length h (t := t) s.tasks.length (Nat.le_refl _)
    exact h1.way (by omega) (fun e => by cases e)
theorem SysI.step {p : DProg} {s : DSys} (h : SysI p s) {t : Nat} (ht : t < s.tasks.length) (hcl : s.clock < 200) : SysI p (stepS p s t) := by
  have hx := h.ht t ht
  unfold stepS
  simp only
  split
  · exact h.awaits ht (by assumption)
  · rename_i hw
    split
    · exact h.way ht (fun e => by cases e)
    · rename_i hpc
      have hpc : (tk s t).pc < (actsOf p (tk s t).body).length := by omega
      split
      · exact h.try_ ht hcl hpc (by assumption)
      · rename_i h1
        split
        · exact h.fork ht hpc (by assumption)
        · have hs : (tk s t).stage = 0 := by
            by_cases e : (tk s t).stage = 0
            · exact e
            · exact absurd (hx.hsp e).2 h1
          split
          · exact h.way ht (fun e => by cases e)
          · exact h.nextPc ht hpc hs hw

/-! ## How long the log gets -/
def pcs (l : List Task) : Nat := (l.map fun x => x.pc.toNat).sum
theorem pcs_set : ∀ {l : List Task} {t : Nat} {x : Task}, t < l.length → pcs (l.set t x) + (l.getD t default).pc.toNat = pcs l + x.pc.toNat
  | [], _, _, h => by cases h
  | y :: l, 0, x, _ => by simp [pcs]; omega
  | y :: l, t + 1, x, h => by
    have := pcs_set (l := l) (t := t) (x := x) (by simpa using h)
    simp only [pcs, List.set_cons_succ, List.map_cons, List.sum_cons, List.getD_cons_succ] at *
    omega
theorem pcs_app (l m : List Task) : pcs (l ++ m) = pcs l + pcs m := by simp [pcs]
theorem pcs_le : ∀ {l : List Task} {n : Nat}, (∀ k, k < l.length → (l.getD k default).pc.toNat ≤ n) → pcs l ≤ n * l.length
  | [], n, _ => by simp [pcs]
  | y :: l, n, h => by
    have h0 := h 0 (by simp)
    have := pcs_le (l := l) (n := n) (fun k hk => by have := h (k + 1) (by simpa using hk); simpa using this)
    simp only [pcs, List.map_cons, List.sum_cons, List.length_cons, Nat.mul_add, List.getD_cons_zero] at *
    omega
/-- A change of a task that is ok. -/
abbrev smallE (x : Entry) : Prop := x.reads.length ≤ 1000000 ∧ x.puts.length ≤ 1000000
/-- The log grows no more than what is done; what is new in it is small. -/
structure LG (s s' : DSys) : Prop where
  n : s'.log.length + pcs s.tasks ≤ s.log.length + pcs s'.tasks
  e : ∀ x ∈ s'.log, x ∈ s.log ∨ smallE x
theorem LG.refl (s : DSys) : LG s s := ⟨Nat.le_refl _, fun _ h => .inl h⟩
theorem LG.trans {s s' s'' : DSys} (h : LG s s') (h' : LG s' s'') : LG s s'' := ⟨by have := h.n; have := h'.n; omega, fun x hx => by
  rcases h'.e x hx with h1 | h1
  · exact h.e x h1
  · exact .inr h1⟩
theorem LG.same {s s' : DSys} (h1 : s'.log = s.log) (h2 : s'.tasks = s.tasks) : LG s s' := ⟨by rw [h1, h2]; exact Nat.le_refl _, fun x hx => .inl (by rw [h1] at hx; exact hx)⟩
theorem LG.set {s : DSys} {t : Nat} {x : Task} (ht : t < s.tasks.length) (hx : (tk s t).pc ≤ x.pc) : LG s (setT s t x) := by
  have := pcs_set (l := s.tasks) (t := t) (x := x) ht
  have h2 : (tk s t).pc.toNat ≤ x.pc.toNat := by omega
  refine ⟨?_, fun _ h => .inl h⟩
  show s.log.length + pcs s.tasks ≤ s.log.length + pcs (s.tasks.set t x)
  have h3 : (tk s t).pc.toNat = (s.tasks.getD t default).pc.toNat := rfl
  omega
theorem LG.set' {s s1 : DSys} {t : Nat} {x : Task} (h : LG s s1) (ht : t < s1.tasks.length) (hx : (tk s1 t).pc ≤ x.pc) : LG s (setT s1 t x) := h.trans (LG.set ht hx)
theorem LG.again {s : DSys} {t : Nat} (ht : t < s.tasks.length) : LG s (againS s t) :=
  LG.set' (s1 := freeS s t) (LG.same rfl rfl) ht (by exact Int.le_refl _)
abbrev smallT (x : Task) : Prop := 0 ≤ x.pc ∧ x.reads.length ≤ 1000000 ∧ x.puts.length ≤ 1000000
theorem SysI.small_t {p : DProg} {s : DSys} (h : SysI p s) {t : Nat} (ht : t < s.tasks.length) : smallT (tk s t) := by
  have := h.fit ht
  exact ⟨this.hpc.1, this.hrd, this.hpt⟩
theorem LG.end_ {s : DSys} {t : Nat} {w : Int} (ht : t < s.tasks.length) (hp : smallT (tk s t)) : LG s (endS s t w) := by
  have := pcs_set (l := s.tasks) (t := t) (x := endT (tk s t)) ht
  refine ⟨?_, fun x hx => ?_⟩
  · show (s.log ++ [_]).length + pcs s.tasks ≤ s.log.length + pcs (s.tasks.set t (endT (tk s t)))
    have h3 : (endT (tk s t)).pc = (s.tasks.getD t default).pc + 1 := rfl
    have hp : 0 ≤ (s.tasks.getD t default).pc := hp.1
    rw [List.length_append]
    simp only [List.length_cons, List.length_nil]
    omega
  · have hx : x ∈ s.log ++ [endE s t w] := hx
    rcases List.mem_append.1 hx with h | h
    · exact .inl h
    · rw [List.mem_singleton] at h
      subst h
      exact .inr hp.2
theorem LG.write {s : DSys} {t : Nat} (ht : t < s.tasks.length) (hp : smallT (tk s t)) : LG s (writeS s t) := by
  have h1 : LG s (setT (writeC s t) t { tk s t with at_ := (tk s t).at_ + 1 }) := LG.set' (s1 := writeC s t) (LG.same rfl rfl) ht (by exact Int.le_refl _)
  unfold writeS
  split
  · refine h1.trans (LG.end_ (by rw [setT_len]; exact ht) ?_)
    rw [tk_setT (s := writeC s t) ht]; exact hp
  · exact h1
theorem LG.writes {p : DProg} : ∀ (f : Nat) {s : DSys} (h : SysI p s) {t : Nat} (ht : t < s.tasks.length), LG s (writesF f s t)
  | 0, s, _, _, _ => LG.refl s
  | f + 1, s, h, t, ht => by
    unfold writesF
    split
    · exact (LG.write ht (h.small_t ht)).trans (LG.writes f (h.write ht (by assumption)) (by rw [writeS_len]; exact ht))
    · exact LG.refl s
theorem LG.offT {p : DProg} {s : DSys} (h : SysI p s) {t : Nat} (ht : t < s.tasks.length) : LG s (offT s t) := by
  unfold AY.offT
  split
  · exact LG.refl s
  · have h1 := LG.writes ((tk s t).puts.length + 1) h ht
    have ht1 : t < (writesF ((tk s t).puts.length + 1) s t).tasks.length := by rw [writesF_len]; exact ht
    simp only
    split
    · exact (h1.trans (LG.again ht1)).trans (LG.set (by rw [againS_len]; exact ht1) (Int.le_refl _))
    · exact h1.trans (LG.set ht1 (Int.le_refl _))
theorem LG.offF {p : DProg} : ∀ (f : Nat) {s : DSys} (h : SysI p s) {t : Nat} (ht : t < s.tasks.length), LG s (offF f s t)
  | 0, s, _, _, _ => LG.refl s
  | f + 1, s, h, t, ht => by
    unfold AY.offF
    have key : ∀ n, n ≤ s.tasks.length → LG s (AY.offL (AY.offF f) s t n) := by
      intro n
      induction n with
      | zero => exact fun _ => LG.refl s
      | succ n ih =>
        intro hn
        obtain ⟨h1, h2⟩ := SysI.offL f h (t := t) n (by omega)
        rw [offL_succ]
        unfold offK
        split
        · exact (ih (by omega)).trans (LG.offF f h1 (by omega))
        · exact ih (by omega)
    obtain ⟨h1, h2⟩ := SysI.offL f h (t := t) s.tasks.length (Nat.le_refl _)
    exact (key _ (Nat.le_refl _)).trans (LG.offT h1 (by omega))
theorem LG.offL {p : DProg} (f : Nat) {s : DSys} (h : SysI p s) {t : Nat} : ∀ (n : Nat), n ≤ s.tasks.length → LG s (AY.offL (AY.offF f) s t n)
  | 0, _ => LG.refl s
  | n + 1, hn => by
    obtain ⟨h1, h2⟩ := SysI.offL f h (t := t) n (by omega)
    rw [offL_succ]
    unfold offK
    split
    · exact (LG.offL f h n (by omega)).trans (LG.offF f h1 (by omega))
    · exact LG.offL f h n (by omega)
theorem LG.awaits {p : DProg} {s : DSys} (h : SysI p s) {t : Nat} (ht : t < s.tasks.length) : LG s (awaitsS s t) := by
  unfold awaitsS
  split
  · refine (LG.set ht (x := { tk s t with way := 0 }) (Int.le_refl _)).trans (LG.set (by rw [setT_len]; exact ht) ?_)
    show (tk (wayS s t 0) t).pc ≤ (tk (wayS s t 0) t).pc + 1
    omega
  · obtain ⟨h1, h2⟩ := SysI.offL s.tasks.length h (t := t) s.tasks.length (Nat.le_refl _)
    exact (LG.offL _ h _ (Nat.le_refl _)).trans (LG.set (by omega) (Int.le_refl _))
theorem LG.deed {p : DProg} {s : DSys} (h : SysI p s) {t : Nat} (ht : t < s.tasks.length) (ds : List Deed) : LG s (deedS s t ds) := by
  unfold deedS
  simp only
  split
  · split
    · exact LG.end_ ht (h.small_t ht)
    · exact LG.set ht (Int.le_refl _)
  · split
    · unfold loadS
      split
      · exact LG.set ht (Int.le_refl _)
      · split
        · exact LG.again ht
        · exact LG.set ht (Int.le_refl _)
    · split
      · exact LG.set ht (Int.le_refl _)
      · split
        · split
          · exact (LG.again ht).trans (LG.set (by rw [againS_len]; exact ht) (Int.le_refl _))
          · exact LG.set ht (Int.le_refl _)
        · exact LG.set ht (Int.le_refl _)
theorem LG.try_ {p : DProg} {s : DSys} (h : SysI p s) {t : Nat} (ht : t < s.tasks.length) (ds : List Deed) : LG s (tryS s t ds) := by
  unfold tryS
  simp only
  split
  · exact LG.set ht (Int.le_refl _)
  · split
    · exact LG.deed h ht ds
    · split
      · unfold lockS
        split
        · exact LG.again ht
        · split
          · exact LG.set' (s1 := AY.setC s (putAt (tk s t)).cell.toNat { s.cells.getD (putAt (tk s t)).cell.toNat default with lock := t }) (LG.same rfl rfl) ht (by exact Int.le_refl _)
          · exact LG.set' (s1 := AY.setC s (putAt (tk s t)).cell.toNat { s.cells.getD (putAt (tk s t)).cell.toNat default with lock := t }) (LG.same rfl rfl) ht (by exact Int.le_refl _)
      · split
        · exact LG.set' (s1 := { s with clock := s.clock + 1 }) (LG.same rfl rfl) ht (by exact Int.le_refl _)
        · split
          · unfold checkS
            split
            · exact LG.set ht (Int.le_refl _)
            · split
              · exact LG.again ht
              · exact LG.set ht (Int.le_refl _)
          · exact LG.write ht (h.small_t ht)
theorem pcs_new (l : List Int) (t : Int) : pcs (l.map fun b => newTask b t) = 0 := by
  induction l with
  | nil => rfl
  | cons b l ih => simp only [pcs, List.map_cons, List.sum_cons] at *; rw [ih]; rfl
theorem LG.fork {s : DSys} {t : Nat} (ht : t < s.tasks.length) (kids : List Int) : LG s (forkS s t kids) := by
  have h1 : LG s (forkA s t kids kids.length) := by
    refine ⟨?_, fun _ h => .inl h⟩
    show s.log.length + pcs s.tasks ≤ s.log.length + pcs (s.tasks ++ _)
    rw [pcs_app]; omega
  unfold forkS
  have hl : t < (forkA s t kids kids.length).tasks.length := by show t < (s.tasks ++ _).length; rw [List.length_append]; omega
  have e : tk (forkA s t kids kids.length) t = tk s t := by
    show (s.tasks ++ _).getD t default = _
    rw [getD_app, if_pos ht]
  refine h1.trans (LG.set hl ?_)
  rw [e]; exact Int.le_refl _
theorem LG.step {p : DProg} {s : DSys} (h : SysI p s) {t : Nat} (ht : t < s.tasks.length) : LG s (stepS p s t) := by
  unfold stepS
  simp only
  split
  · exact LG.awaits h ht
  · split
    · exact LG.set ht (Int.le_refl _)
    · split
      · exact LG.try_ h ht _
      · split
        · exact LG.fork ht _
        · split
          · exact LG.set ht (Int.le_refl _)
          · refine LG.set ht ?_
            show (tk s t).pc ≤ (tk s t).pc + 1
            omega
theorem SysI.pcs_le {p : DProg} {s : DSys} (h : SysI p s) : pcs s.tasks ≤ 4 * s.tasks.length :=
  AY.pcs_le fun k hk => by
    have h1 := h.ht k hk
    have h2 := (h.body h1).1
    have h3 := h1.hpc
    show (tk s k).pc.toNat ≤ 4
    omega
theorem LG.len {p : DProg} {s s' : DSys} (h : LG s s') (h' : SysI p s') : s'.log.length ≤ s.log.length + 4 * s'.tasks.length := by
  have := h'.pcs_le
  have := h.n
  omega
/-! ## How many tasks there are -/
theorem awaitsS_len {s : DSys} {t : Nat} : (awaitsS s t).tasks.length = s.tasks.length := by
  unfold awaitsS
  split
  · rw [nextPc_len, wayS_len]
  · rw [wayS_len]
    exact offL_inv (P := fun x => x.tasks.length = s.tasks.length) (fun s' k h => by rw [offF_len]; exact h) _ rfl
theorem deedS_len {s : DSys} {t : Nat} {ds : List Deed} : (deedS s t ds).tasks.length = s.tasks.length := by
  unfold deedS loadS
  simp only
  repeat' split
  all_goals first | rw [endS_len] | rw [againS_len] | (rw [setT_len]; try rw [againS_len])
theorem tryS_len {s : DSys} {t : Nat} {ds : List Deed} : (tryS s t ds).tasks.length = s.tasks.length := by
  unfold tryS
  simp only
  split
  · exact setT_len
  · split
    · exact deedS_len
    · split
      · unfold lockS; repeat' split
        all_goals first | rw [againS_len] | (rw [setT_len]; rfl)
      · split
        · rw [setT_len]
        · split
          · unfold checkS; repeat' split
            all_goals first | rw [againS_len] | rw [setT_len]
          · exact writeS_len
theorem forkS_len {s : DSys} {t : Nat} {kids : List Int} : (forkS s t kids).tasks.length = s.tasks.length + kids.length := by
  unfold forkS
  rw [setT_len]
  show (s.tasks ++ _).length = _
  rw [List.length_append, List.length_map, List.take_length]
/-- How many tasks there are behind a step. -/
def stepN (p : DProg) (s : DSys) (t : Nat) : Nat := (stepS p s t).tasks.length
theorem stepS_len {p : DProg} {s : DSys} (h : SysI p s) {t : Nat} (ht : t < s.tasks.length) : (stepS p s t).tasks.length ≤ s.tasks.length + 2 := by
  have hx := h.ht t ht
  unfold stepS
  simp only
  split
  · rw [awaitsS_len]; omega
  · split
    · rw [wayS_len]; omega
    · rename_i hpc
      split
      · rw [tryS_len]; omega
      · split
        · rw [forkS_len]
          have ha := (h.body hx).2 (tk s t).pc.toNat (by have := hx.hpc; omega)
          have := (actOk_kids ha).1
          have e : (actAt p (tk s t)).kids.length = ((actsOf p (tk s t).body).getD (tk s t).pc.toNat default).kids.length := rfl
          omega
        · split
          · rw [wayS_len]; omega
          · rw [nextPc_len]; omega
end Go.Proofs.AY
/- AY, part R: plain words: a system that is ok keeps what steps need; what many turns do. -/
namespace Go.Proofs.AY
open Go

theorem numsOk_at {l : List Int} {n : Int} (h : numsOk l n = true) : (l.length : Int) = n ∧ ∀ j, j < l.length → 0 ≤ l.getD j default ∧ l.getD j default ≤ 99 := by
  unfold numsOk at h
  simp only [Bool.and_eq_true, decide_eq_true_eq] at h
  exact ⟨h.2, fun j hj => of_decide_eq_true (all_at h.1 hj)⟩
theorem regsP_of {l : List Int} (h : numsOk l 3 = true) : regsP l := by
  obtain ⟨h1, h2⟩ := numsOk_at h
  exact ⟨by omega, fun j hj => h2 j (by omega)⟩
theorem TaskI.of_ok {p : DProg} {s : DSys} {i : Int} {x : Task} (hc : s.cells.length = p.cells.length) (h : taskOk p s i x = true) : TaskI p x := by
  have h0 := taskOk_p1 h
  unfold taskOk at h
  simp only [Bool.and_eq_true, decide_eq_true_eq] at h
  obtain ⟨-, hws, hr, ho, hre, hpu, hp2, htm, hup, hst⟩ := h
  have hws : x.way = 0 ∨ x.stage = 0 := by simpa using hws
  rw [hc] at hre hpu
  have hsp : x.stage ≠ 0 → x.pc < (actsOf p x.body).length ∧ (actAt p x).kind = 1 ∧ atP x (actAt p x).deeds.length := by
    intro hs
    have hw : x.way = 0 := by omega
    unfold actStands at hst
    rw [if_pos hw] at hst
    simp only [Bool.or_eq_true, Bool.and_eq_true, decide_eq_true_eq] at hst
    rcases hst with h | h
    · omega
    · exact ⟨h.1.1, h.1.2, of_decide_eq_true h.2⟩
  refine ⟨h0.1, h0.2.1, h0.2.2.2, fun hs => ⟨(hsp hs).1, (hsp hs).2.1⟩, fun hw => ?_, regsP_of hr, regsP_of ho, hre, hpu, ?_⟩
  · unfold actStands at hst
    rw [if_neg (by omega), if_pos hw] at hst
    simp only [Bool.and_eq_true, decide_eq_true_eq] at hst
    exact hst.1
  · have h5 := h0.2.2.2
    by_cases hs : x.stage = 0
    · have : x.at_ = 0 := by
        have hp2 : x.stage ≠ 0 ∨ (x.at_ = 0 ∧ (x.reads.length : Int) + x.puts.length = 0) := hp2
        omega
      refine ⟨by omega, fun _ => this, fun e => by omega, fun e => by omega, fun e => by omega, fun e => by omega⟩
    · have ha := (hsp hs).2.2
      unfold atP at ha
      refine ⟨by omega, fun e => by omega, fun e => by omega, fun e => by omega, fun e => by omega, fun e => by omega⟩
theorem SysI.of_ok {p : DProg} {s : DSys} (h : sysOk p s = true) : SysI p s ∧ 1 ≤ s.tasks.length ∧ s.tasks.length ≤ 7 := by
  unfold sysOk at h
  simp only [Bool.and_eq_true, decide_eq_true_eq] at h
  obtain ⟨hp, ⟨hc, hl, hk⟩, ht, hcs, hlog⟩ := h
  have hc : s.cells.length = p.cells.length := by omega
  have ht' : ∀ k, k < s.tasks.length → taskOk p s k (tk s k) = true := fun k hk => allTo_at ht hk
  refine ⟨⟨hp, hc, fun j hj => ?_, hk, fun k hk => TaskI.of_ok hc (ht' k hk), fun k hk => ?_, fun k hk => ?_⟩, by omega, by omega⟩
  · have := allTo_at hcs hj
    unfold cellOk at this
    simp only [Bool.and_eq_true] at this
    have := of_decide_eq_true this.1
    exact this.1
  · have := ht' k hk
    unfold taskOk at this
    simp only [Bool.and_eq_true] at this
    have hu : upP s k (s.tasks.getD (Int.toNat k) default) := of_decide_eq_true this.2.2.2.2.2.2.2.2.1
    rw [Int.toNat_natCast] at hu
    show (s.tasks.getD k default).up < k
    unfold upP at hu
    omega
  · have := ht' k hk
    unfold taskOk at this
    simp only [Bool.and_eq_true] at this
    have hu : timesP (tk s k) s := of_decide_eq_true this.2.2.2.2.2.2.2.1
    exact hu.1
theorem readyB_clock {s : DSys} {t : Nat} (h : readyB s t = true) : s.clock < 200 := by
  unfold readyB at h
  simp only at h
  split at h
  · cases h
  · omega
theorem doB_at {s : DSys} {t : Int} (h : doB s t = true) : 0 ≤ t ∧ t.toNat < s.tasks.length ∧ readyB s t.toNat = true := by
  unfold doB at h
  simp only [Bool.and_eq_true, decide_eq_true_eq] at h
  exact ⟨h.1.1, by omega, h.2⟩
theorem SysI.do_ {p : DProg} {s : DSys} (h : SysI p s) (t : Int) : SysI p (doS p s t) ∧ LG s (doS p s t) ∧ (doS p s t).tasks.length ≤ s.tasks.length + 2 := by
  unfold doS
  split
  · rename_i hb
    obtain ⟨h1, h2, h3⟩ := doB_at hb
    exact ⟨h.step h2 (readyB_clock h3), LG.step h h2, stepS_len h h2⟩
  · exact ⟨h, LG.refl s, by omega⟩
/-- What is known after some turns. -/
structure RunI (p : DProg) (s s' : DSys) (n : Nat) : Prop where
  i : SysI p s'
  g : LG s s'
  l : s'.tasks.length ≤ 7 + 2 * n
theorem RunI.zero {p : DProg} {s : DSys} (h : SysI p s) (hl : s.tasks.length ≤ 7) : RunI p s s 0 := ⟨h, LG.refl s, by omega⟩
theorem RunI.do_ {p : DProg} {s s' : DSys} {n : Nat} (h : RunI p s s' n) (t : Int) : RunI p s (doS p s' t) (n + 1) := by
  obtain ⟨h1, h2, h3⟩ := h.i.do_ t
  exact ⟨h1, h.g.trans h2, by have := h.l; omega⟩
theorem RunI.run {p : DProg} {s : DSys} : ∀ {ts : List Int} {s' : DSys} {n : Nat}, RunI p s s' n → RunI p s (runS p s' ts) (n + ts.length)
  | [], s', n, h => h
  | t :: ts, s', n, h => by
    have := RunI.run (ts := ts) (h.do_ t)
    have e : runS p s' (t :: ts) = runS p (doS p s' t) ts := rfl
    rw [e, List.length_cons, show n + (ts.length + 1) = n + 1 + ts.length by omega]; exact this
theorem RunI.log {p : DProg} {s s' : DSys} {n : Nat} (h : RunI p s s' n) : s'.log.length ≤ s.log.length + 4 * (7 + 2 * n) := by
  have := h.g.len h.i
  have := h.l
  omega
end Go.Proofs.AY
namespace Go.Proofs.AY
open Go
theorem writesF_stop {g : Nat} {s : DSys} {t : Nat} (h : ¬ (tk s t).stage = 5) : writesF g s t = s := by
  cases g with
  | zero => rfl
  | succ g => unfold writesF; rw [if_neg h]
theorem writeS_tk {s : DSys} {t : Nat} (ht : t < s.tasks.length) : tk (writeS s t) t = if (tk s t).at_ + 1 = (tk s t).puts.length then endT (tk s t) else { tk s t with at_ := (tk s t).at_ + 1 } := by
  have h1 : t < (setT (writeC s t) t { tk s t with at_ := (tk s t).at_ + 1 }).tasks.length := by rw [setT_len]; exact ht
  unfold writeS
  split
  · unfold endS
    rw [tk_setT (by exact h1), tk_setT (s := writeC s t) ht]; rfl
  · rw [tk_setT (s := writeC s t) ht]
theorem writesF_next {g : Nat} {s : DSys} {t : Nat} (ht : t < s.tasks.length) (hs : (tk s t).stage = 5) (hg : ((tk s t).puts.length : Int) - (tk s t).at_ < g) (ha : (tk s t).at_ < (tk s t).puts.length) :
    ∃ g', g = g' + 1 ∧ writesF g' (writeS s t) t = writesF g s t ∧ ((tk (writeS s t) t).stage = 5 → ((tk (writeS s t) t).puts.length : Int) - (tk (writeS s t) t).at_ < g') := by
  cases g with
  | zero => omega
  | succ g =>
    refine ⟨g, rfl, ?_, ?_⟩
    · rw [writesF, if_pos hs]
    · rw [writeS_tk ht]
      split
      · intro e; have e : (0 : Int) = 5 := e; omega
      · intro _
        show ((tk s t).puts.length : Int) - ((tk s t).at_ + 1) < g
        omega
theorem setC_lenC {s : DSys} {c : Nat} {x : DCell} : (setC s c x).cells.length = s.cells.length := setC_len
theorem SysI.cells {p : DProg} {s s' : DSys} (h : SysI p s) (h' : SysI p s') : s'.cells.length = s.cells.length := by rw [h.hc, h'.hc]
end Go.Proofs.AY
/- AY, part U: plain words: many turns. -/
namespace Go.Proofs.AY
open Go
def nilS : DSys := ⟨[], [], 0, []⟩
theorem runS_snoc {p : DProg} {s : DSys} {ts : List Int} {i : Nat} (h : i < ts.length) : runS p s (ts.take (i + 1)) = doS p (runS p s (ts.take i)) (ts.getD i default) := by
  unfold runS
  rw [take_snoc _ _ h, List.foldl_append]; rfl
theorem RunI.take {p : DProg} {s : DSys} (h : SysI p s) (hl : s.tasks.length ≤ 7) (ts : List Int) (i : Nat) : RunI p s (runS p s (ts.take i)) (ts.take i).length := by
  have := (RunI.zero h hl).run (ts := ts.take i)
  rw [Nat.zero_add] at this; exact this
theorem LG.small {s s' : DSys} (h : LG s s') (hs : ∀ x ∈ s.log, smallE x) : ∀ x ∈ s'.log, smallE x := fun x hx => by
  rcases h.e x hx with h1 | h1
  · exact hs x h1
  · exact h1
def runOk (p : DProg) (s : DSys) (ts : List Int) : Bool := sysOk p s && decide ((ts.length : Int) ≤ 300)
def runR (p : DProg) (s : DSys) (ts : List Int) : DSys := if runOk p s ts then runS p s ts else nilS
end Go.Proofs.AY
namespace Go.Proofs.AY
open Go
/-- What a rest comes to. -/
def restP (p : DProg) (s R : DSys) (b : Bool) : Prop := (b = true ∧ sysOk p s = true ∧ ∃ ts : List Int, R = runS p s ts ∧ ts.length ≤ 2000) ∨ (b = false ∧ R = nilS)
theorem runS_app1 {p : DProg} {s : DSys} {ts : List Int} {t : Int} : runS p s (ts ++ [t]) = doS p (runS p s ts) t := by
  unfold runS
  rw [List.foldl_append]; rfl
theorem doS_false {p : DProg} {s : DSys} {t : Int} (h : doB s t = false) : doS p s t = s := by unfold doS; rw [h]; rfl
end Go.Proofs.AY
namespace Go.Proofs.AY
open Go
theorem sysNew_ok {p : DProg} (h : progOk p = true) : sysOk p (sysNew p) = true := by
  have hf : formOk p = true := by
    unfold progOk at h
    rw [Bool.and_eq_true] at h; exact h.1
  have hl := formOk_len hf
  have hcn : ∀ j, j < p.cells.length → 0 ≤ p.cells.getD j default ∧ p.cells.getD j default ≤ 99 := fun j hj => by
    unfold formOk at hf
    simp only [Bool.and_eq_true] at hf
    exact of_decide_eq_true (all_at hf.2.1 hj)
  unfold sysOk
  simp only [Bool.and_eq_true, decide_eq_true_eq]
  refine ⟨h, ⟨by simp [sysNew], by simp [sysNew], by simp [sysNew]⟩, ?_, ?_, rfl⟩
  · refine allTo_of fun j hj => ?_
    have hj : j < 1 := hj
    have e : j = 0 := by omega
    subst e
    show taskOk p (sysNew p) 0 (newTask 0 (-1)) = true
    unfold taskOk
    simp only [Bool.and_eq_true, decide_eq_true_eq]
    refine ⟨⟨⟨Int.le_refl _, by show (0 : Int) ≤ _; omega⟩, ⟨Int.le_refl _, by show (0 : Int) ≤ _; omega⟩, ⟨by show (0:Int) ≤ 0; omega, by show (0 : Int) ≤ 4; omega⟩, ⟨by show (0:Int) ≤ 0; omega, by show (0 : Int) ≤ 5; omega⟩⟩, rfl, rfl, rfl, rfl, rfl, .inr ⟨rfl, rfl⟩, ?_, ?_, ?_⟩
    · exact decide_eq_true ⟨⟨by show (0:Int) ≤ 0; omega, by show (0:Int) ≤ 0; omega⟩, ⟨by show (0:Int) ≤ 0; omega, by show (0:Int) ≤ _; omega⟩, .inl ⟨rfl, by show (0:Int) ≤ 0; omega, by show (0:Int) ≤ 0 + 1; omega⟩⟩
    · exact decide_eq_true (.inl ⟨rfl, rfl⟩)
    · rfl
  · refine allTo_of fun j hj => ?_
    have hj : j < p.cells.length := by simpa [sysNew] using hj
    have e : (sysNew p).cells.getD j default = newCell (p.cells.getD j default) := getD_map _ _ hj
    unfold cellOk
    rw [e, Bool.and_eq_true]
    refine ⟨decide_eq_true ⟨hcn j hj, ⟨by show (0:Int) ≤ 0; omega, by show (0:Int) ≤ 0; omega⟩, ⟨by show (-1:Int) ≤ -1; omega, by show (-1:Int) ≤ _; omega⟩⟩, ?_⟩
    refine allTo_of fun k hk => ?_
    have hk : k < 1 := hk
    have ek : k = 0 := by omega
    subst ek
    unfold holdOk
    rw [e]
    rfl
/-- What is drawn: a program and a system of it. -/
def drawnP (P : DProg) (S : DSys) : Prop := (progOk P = true ∧ 1 ≤ P.cells.length) ∧ ∃ ts : List Int, S = runS P (sysNew P) ts ∧ ts.length ≤ 300
theorem runR_eq {p : DProg} {s : DSys} {ts : List Int} (h1 : sysOk p s = true) (h2 : ts.length ≤ 300) : runR p s ts = runS p s ts := by
  unfold runR runOk
  rw [h1, decide_eq_true (by omega)]; rfl
theorem drawn_run {P : DProg} {S : DSys} (h : drawnP P S) : RunI P (sysNew P) S 300 := by
  obtain ⟨hp, ts, rfl, hl⟩ := h
  obtain ⟨h1, h2, h3⟩ := SysI.of_ok (sysNew_ok hp.1)
  have := (RunI.zero h1 h3).run (ts := ts)
  rw [Nat.zero_add] at this
  exact ⟨this.i, this.g, by have := this.l; omega⟩
theorem drawn_small {P : DProg} {S : DSys} (h : drawnP P S) : S.log.length ≤ 1000000 ∧ ∀ x ∈ S.log, smallE x := by
  have hr := drawn_run h
  have hl := hr.log
  have e : (sysNew P).log.length = 0 := rfl
  exact ⟨by omega, hr.g.small (fun x hx => by cases hx)⟩
end Go.Proofs.AY
/- AY, part Qb: plain words: times and changes stay small. -/
namespace Go.Proofs.AY
open Go

abbrev goodT (x : Task) : Prop := 0 ≤ x.when ∧ x.when ≤ 1000 ∧ 0 ≤ x.frm ∧ x.frm ≤ 1000000000
abbrev goodE (x : Entry) : Prop := 0 ≤ x.task ∧ x.task ≤ 1000000000 ∧ 0 ≤ x.act ∧ x.act ≤ 1000000 ∧ 0 ≤ x.when ∧ x.when ≤ 1000 ∧ 0 ≤ x.frm ∧ x.frm ≤ 1000000000 ∧ listOk x.reads 3 = true ∧ listOk x.puts 3 = true
structure GoodS (s : DSys) : Prop where
  hw : ∀ k, k < s.tasks.length → goodT (tk s k)
  he : ∀ x ∈ s.log, goodE x
theorem listOk_le {l : List Put} {n m : Int} (h : listOk l n = true) (hm : n ≤ m) : listOk l m = true := by
  rw [listOk_iff] at *
  exact ⟨fun y hy => by have := h.1 y hy; exact ⟨this.1, by have := this.2.1; omega, this.2.2⟩, h.2⟩
theorem GoodS.set {s : DSys} (h : GoodS s) {t : Nat} {x : Task} (hx : goodT x) : GoodS (setT s t x) := by
  refine ⟨fun k hk => ?_, h.he⟩
  rw [setT_len] at hk
  by_cases e : k = t
  · subst e; rw [tk_setT hk]; exact hx
  · rw [tk_ne e]; exact h.hw k hk
theorem GoodS.same {s s' : DSys} (h : GoodS s) (h1 : s'.tasks = s.tasks) (h2 : s'.log = s.log) : GoodS s' := by
  refine ⟨fun k hk => ?_, fun x hx => h.he x (by rw [h2] at hx; exact hx)⟩
  have e : tk s' k = tk s k := by unfold tk; rw [h1]
  rw [e]; rw [h1] at hk; exact h.hw k hk
theorem GoodS.again {s : DSys} (h : GoodS s) {t : Nat} (ht : t < s.tasks.length) : GoodS (againS s t) := by
  have h1 : GoodS (freeS s t) := h.same rfl rfl
  have := h.hw t ht
  exact h1.set (x := againT (tk s t)) ⟨by show (0:Int) ≤ 0; omega, by show (0:Int) ≤ 1000; omega, this.2.2⟩
theorem GoodS.end_ {p : DProg} {s : DSys} (h : GoodS s) (hI : SysI p s) {t : Nat} (ht : t < s.tasks.length) (hn : s.tasks.length ≤ 1000000000) {w : Int} (hw : 0 ≤ w ∧ w ≤ 1000) : GoodS (endS s t w) := by
  have hx := hI.ht t ht
  have hF := hI.fit ht
  have hg := h.hw t ht
  have hs := hI.small
  have h1 : GoodS (logS s (endE s t w)) := by
    refine ⟨h.hw, fun x hx' => ?_⟩
    have hx' : x ∈ s.log ++ [endE s t w] := hx'
    rcases List.mem_append.1 hx' with h2 | h2
    · exact h.he x h2
    · rw [List.mem_singleton] at h2
      subst h2
      exact ⟨by show (0:Int) ≤ (t : Int); omega, by show (t : Int) ≤ 1000000000; omega, hF.hpc.1, hF.hpc.2, hw.1, hw.2, hg.2.2.1, hg.2.2.2, listOk_le hx.hre (by omega), listOk_le hx.hpu (by omega)⟩
  exact h1.set (x := endT (tk s t)) ⟨by show (0:Int) ≤ 0; omega, by show (0:Int) ≤ 1000; omega, by show (0:Int) ≤ 0; omega, by show (0:Int) ≤ 1000000000; omega⟩
theorem GoodS.write {p : DProg} {s : DSys} (h : GoodS s) (hI : SysI p s) {t : Nat} (ht : t < s.tasks.length) (hs : (tk s t).stage = 5) (hn : s.tasks.length ≤ 1000000000) : GoodS (writeS s t) := by
  have hx := hI.ht t ht
  have hg := h.hw t ht
  have hin := listOk_in hx.hpu (i := (tk s t).at_.toNat) (by have := hx.hat.2.2.2.2.1 (.inr hs); have := hx.hat.1; omega)
  have hcI : SysI p (writeC s t) := hI.setC ⟨hin.2.2.1, hin.2.2.2⟩
  have hc : GoodS (writeC s t) := h.same rfl rfl
  unfold writeS
  split
  · rename_i he
    have key : ∀ x : Task, tk (setT (writeC s t) t x) t = x := fun x => tk_setT (s := writeC s t) ht
    have hI2 : ∀ w, endS (setT (writeC s t) t { tk s t with at_ := (tk s t).at_ + 1 }) t w = endS (writeC s t) t w := by
      intro w
      unfold endS endE
      rw [key]
      simp only [setT, logS, List.set_set]
      rfl
    rw [hI2]
    exact hc.end_ hcI ht hn ⟨hg.1, hg.2.1⟩
  · exact hc.set (x := { tk s t with at_ := (tk s t).at_ + 1 }) hg
theorem GoodS.writes {p : DProg} : ∀ (f : Nat) {s : DSys} (h : GoodS s) (hI : SysI p s) {t : Nat} (ht : t < s.tasks.length) (hn : s.tasks.length ≤ 1000000000), GoodS (writesF f s t)
  | 0, _, h, _, _, _, _ => h
  | f + 1, s, h, hI, t, ht, hn => by
    unfold writesF
    split
    · exact GoodS.writes f (h.write hI ht (by assumption) hn) (hI.write ht (by assumption)) (by rw [writeS_len]; exact ht) (by rw [writeS_len]; exact hn)
    · exact h
theorem GoodS.offT {p : DProg} {s : DSys} (h : GoodS s) (hI : SysI p s) {t : Nat} (ht : t < s.tasks.length) (hn : s.tasks.length ≤ 1000000000) : GoodS (offT s t) := by
  unfold AY.offT
  split
  · exact h
  · have h1 := GoodS.writes ((tk s t).puts.length + 1) h hI ht hn
    have ht1 : t < (writesF ((tk s t).puts.length + 1) s t).tasks.length := by rw [writesF_len]; exact ht
    simp only
    split
    · have h2 := h1.again ht1
      exact h2.set (h2.hw t (by rw [againS_len]; exact ht1))
    · exact h1.set (h1.hw t ht1)
theorem GoodS.offF {p : DProg} : ∀ (f : Nat) {s : DSys} (h : GoodS s) (hI : SysI p s) {t : Nat} (ht : t < s.tasks.length) (hn : s.tasks.length ≤ 1000000000), GoodS (offF f s t)
  | 0, _, h, _, _, _, _ => h
  | f + 1, s, h, hI, t, ht, hn => by
    unfold AY.offF
    have key : ∀ n, n ≤ s.tasks.length → GoodS (AY.offL (AY.offF f) s t n) := by
      intro n
      induction n with
      | zero => exact fun _ => h
      | succ n ih =>
        intro hk
        obtain ⟨h1, h2⟩ := SysI.offL f hI (t := t) n (by omega)
        rw [offL_succ]
        unfold offK
        split
        · exact GoodS.offF f (ih (by omega)) h1 (by omega) (by omega)
        · exact ih (by omega)
    obtain ⟨h1, h2⟩ := SysI.offL f hI (t := t) s.tasks.length (Nat.le_refl _)
    exact (key _ (Nat.le_refl _)).offT h1 (by omega) (by omega)
theorem GoodS.offL {p : DProg} (f : Nat) {s : DSys} (h : GoodS s) (hI : SysI p s) {t : Nat} (hn : s.tasks.length ≤ 1000000000) : ∀ (n : Nat), n ≤ s.tasks.length → GoodS (AY.offL (AY.offF f) s t n)
  | 0, _ => h
  | n + 1, hk => by
    obtain ⟨h1, h2⟩ := SysI.offL f hI (t := t) n (by omega)
    rw [offL_succ]
    unfold offK
    split
    · exact GoodS.offF f (GoodS.offL f h hI hn n (by omega)) h1 (by omega) (by omega)
    · exact GoodS.offL f h hI hn n (by omega)
theorem GoodS.step {p : DProg} {s : DSys} (h : GoodS s) (hI : SysI p s) {t : Nat} (ht : t < s.tasks.length) (hcl : s.clock < 200) (hn : s.tasks.length ≤ 1000000000) (hl : s.log.length ≤ 1000000000) : GoodS (stepS p s t) := by
  have hx := hI.ht t ht
  have hg := h.hw t ht
  have hsi := hI.hs t ht
  have hc0 := hI.hcl
  unfold stepS
  simp only
  split
  · unfold awaitsS
    split
    · have h1 : GoodS (wayS s t 0) := h.set hg
      refine h1.set ?_
      show goodT (tk (wayS s t 0) t)
      rw [wayS_tk ht]; exact hg
    · obtain ⟨h1, h2⟩ := SysI.offL s.tasks.length hI (t := t) s.tasks.length (Nat.le_refl _)
      have h3 := GoodS.offL s.tasks.length h hI (t := t) hn s.tasks.length (Nat.le_refl _)
      exact h3.set (h3.hw t (by omega))
  · split
    · exact h.set hg
    · split
      · have hst := hx.hst
        unfold tryS
        simp only
        split
        · exact h.set (x := beginT s (tk s t)) ⟨by show (0:Int) ≤ 0; omega, by show (0:Int) ≤ 1000; omega, by show (0:Int) ≤ (s.log.length : Int); omega, by show (s.log.length : Int) ≤ 1000000000; omega⟩
        · split
          · unfold deedS
            simp only
            split
            · split
              · exact h.end_ hI ht hn (by omega)
              · exact h.set hg
            · split
              · unfold loadS
                split
                · exact h.set hg
                · split
                  · exact h.again ht
                  · exact h.set hg
              · split
                · exact h.set hg
                · split
                  · split
                    · have h1 := h.again ht
                      have h2 := h1.hw t (by rw [againS_len]; exact ht)
                      exact h1.set (x := { tk (againS s t) t with when := (tk s t).since + 1 }) ⟨by show (0:Int) ≤ (tk s t).since + 1; omega, by show (tk s t).since + 1 ≤ 1000; omega, h2.2.2⟩
                    · exact h.set hg
                  · exact h.set hg
          · split
            · unfold lockS
              split
              · exact h.again ht
              · split
                · exact (h.same (s' := AY.setC s (putAt (tk s t)).cell.toNat { s.cells.getD (putAt (tk s t)).cell.toNat default with lock := t }) rfl rfl).set hg
                · exact (h.same (s' := AY.setC s (putAt (tk s t)).cell.toNat { s.cells.getD (putAt (tk s t)).cell.toNat default with lock := t }) rfl rfl).set hg
            · split
              · exact (h.same (s' := { s with clock := s.clock + 1 }) rfl rfl).set (x := { tk s t with when := s.clock + 1, stage := 4, at_ := 0 }) ⟨by show (0:Int) ≤ s.clock + 1; omega, by show s.clock + 1 ≤ 1000; omega, hg.2.2⟩
              · split
                · unfold checkS
                  split
                  · exact h.set hg
                  · split
                    · exact h.again ht
                    · exact h.set hg
                · exact h.write hI ht (by omega) hn
      · split
        · have h1 : GoodS (forkA s t (actAt p (tk s t)).kids (actAt p (tk s t)).kids.length) := by
            refine ⟨fun k hk => ?_, h.he⟩
            show goodT ((s.tasks ++ ((actAt p (tk s t)).kids.take (actAt p (tk s t)).kids.length).map fun b => newTask b t).getD k default)
            rw [getD_app]
            split
            · exact h.hw k (by assumption)
            · rename_i hge
              have hk2 : k - s.tasks.length < ((actAt p (tk s t)).kids.take (actAt p (tk s t)).kids.length).length := by
                have hk : k < (s.tasks ++ ((actAt p (tk s t)).kids.take (actAt p (tk s t)).kids.length).map fun b => newTask b t).length := hk
                rw [List.length_append, List.length_map] at hk; omega
              rw [getD_map _ _ hk2]
              exact ⟨by show (0:Int) ≤ 0; omega, by show (0:Int) ≤ 1000; omega, by show (0:Int) ≤ 0; omega, by show (0:Int) ≤ 1000000000; omega⟩
          exact h1.set hg
        · split
          · exact h.set hg
          · exact h.set hg
theorem GoodS.run {p : DProg} {s : DSys} (hs : s.log.length ≤ 1000000) : ∀ {ts : List Int} {s' : DSys} {n : Nat}, n + ts.length ≤ 10000 → GoodS s' → RunI p s s' n → GoodS (runS p s' ts)
  | [], s', n, _, h, _ => h
  | t :: ts, s', n, hn, h, hr => by
    have e : runS p s' (t :: ts) = runS p (doS p s' t) ts := rfl
    rw [e]
    simp only [List.length_cons] at hn
    refine GoodS.run hs (n := n + 1) (by omega) ?_ (hr.do_ t)
    unfold doS
    split
    · rename_i hb
      obtain ⟨h1, h2, h3⟩ := doB_at hb
      have hl := hr.log
      have hk := hr.l
      exact h.step hr.i h2 (readyB_clock h3) (by omega) (by omega)
    · exact h
theorem GoodS.new {p : DProg} : GoodS (sysNew p) := by
  refine ⟨fun k hk => ?_, fun x hx => by cases hx⟩
  have hk : k < 1 := hk
  have e : k = 0 := by omega
  subst e
  exact ⟨by show (0:Int) ≤ 0; omega, by show (0:Int) ≤ 1000; omega, by show (0:Int) ≤ 0; omega, by show (0:Int) ≤ 1000000000; omega⟩
theorem drawn_good {P : DProg} {S : DSys} (h : drawnP P S) : GoodS S := by
  obtain ⟨hp, ts, rfl, hl⟩ := h
  obtain ⟨h1, h2, h3⟩ := SysI.of_ok (sysNew_ok hp.1)
  exact GoodS.run (s := sysNew P) (n := 0) (by show (0:Nat) ≤ 1000000; omega) (by omega) GoodS.new (RunI.zero h1 h3)
theorem rest_good {P : DProg} {S R : DSys} {b : Bool} (h : drawnP P S) (hr : restP P S R b) : ∀ x ∈ R.log, goodE x := by
  rcases hr with ⟨_, hk, ts, rfl, hl⟩ | ⟨_, rfl⟩
  · obtain ⟨h1, h2, h3⟩ := SysI.of_ok hk
    exact (GoodS.run (s := S) (n := 0) (drawn_small h).1 (by omega) (drawn_good h) (RunI.zero h1 h3)).he
  · intro x hx; cases hx
theorem rest_len {P : DProg} {S R : DSys} {b : Bool} (h : drawnP P S) (hr : restP P S R b) : R.log.length ≤ 2000000 := by
  rcases hr with ⟨_, hk, ts, rfl, hl⟩ | ⟨_, rfl⟩
  · obtain ⟨h1, h2, h3⟩ := SysI.of_ok hk
    have := ((RunI.zero h1 h3).run (ts := ts)).log
    have := (drawn_small h).1
    omega
  · show (0:Nat) ≤ _; omega
end Go.Proofs.AY
/- AY, part Qc: plain words: drawn logs. -/
namespace Go.Proofs.AY
open Go
abbrev bentL (l : List Entry) : List Entry := l.set 0 { l.getD 0 default with when := (l.getD (l.length - 1) default).when + 1 }
/-- What is drawn as a log. -/
def logP (P : DProg) (L : List Entry) : Prop := ∃ S R b, drawnP P S ∧ restP P S R b ∧ (L = R.log ∨ (1 < R.log.length ∧ L = bentL R.log))
abbrev goodF (x : Entry) : Prop := 0 ≤ x.task ∧ x.task ≤ 1000000000 ∧ 0 ≤ x.act ∧ x.act ≤ 1000000 ∧ 0 ≤ x.when ∧ x.when ≤ 1001 ∧ 0 ≤ x.frm ∧ x.frm ≤ 1000000000 ∧ listOk x.reads 3 = true ∧ listOk x.puts 3 = true
theorem goodE.f {x : Entry} (h : goodE x) : goodF x := ⟨h.1, h.2.1, h.2.2.1, h.2.2.2.1, h.2.2.2.2.1, by have := h.2.2.2.2.2.1; omega, h.2.2.2.2.2.2⟩
theorem logP.good {P : DProg} {L : List Entry} (h : logP P L) : L.length ≤ 2000000 ∧ ∀ x ∈ L, goodF x := by
  obtain ⟨S, R, b, h1, h2, h3⟩ := h
  have hg := rest_good h1 h2
  have hl := rest_len h1 h2
  rcases h3 with rfl | ⟨hlt, rfl⟩
  · exact ⟨hl, fun x hx => (hg x hx).f⟩
  · refine ⟨by rw [List.length_set]; exact hl, fun x hx => ?_⟩
    have h0 := hg _ (getD_mem default (l := R.log) (j := 0) (by omega))
    have h9 := hg _ (getD_mem default (l := R.log) (j := R.log.length - 1) (by omega))
    rcases List.mem_or_eq_of_mem_set hx with h | h
    · exact (hg x h).f
    · subst h
      exact ⟨h0.1, h0.2.1, h0.2.2.1, h0.2.2.2.1, by have := h9.2.2.2.2.1; show (0:Int) ≤ (R.log.getD (R.log.length - 1) default).when + 1; omega, by have := h9.2.2.2.2.2.1; show (R.log.getD (R.log.length - 1) default).when + 1 ≤ 1001; omega, h0.2.2.2.2.2.2⟩
theorem eTask_weave {x : Task} (h : x.regs.length = 3) : ([iv x.body, iv x.pc, iv x.up, .d 1 3 (fun i => eI (x.regs.getD i default)), iv x.way, iv x.stage, iv x.at_, iv x.since, dl 1 eI x.old, dl 2 ePut x.reads, dl 2 ePut x.puts, iv x.when, iv x.frm] : List CV) = eTask x := by
  simp only [eTask, dl, h]
end Go.Proofs.AY
/- AY, part V: objects picked out by the slots that lead to them. -/
namespace Go.Proofs.AY
open Go Go.RowKit
/-- The number of the object that a slot leads to. -/
def slotRef (st : St) (t : Nat) : Nat := match tmGet st.tm t with
  | .c (.p r _) => r.k
  | .c (.s r _) => r.k
  | _ => 0
def rhoOf (st : St) : List Nat → List Sel
  | [] => []
  | t :: ts => .all (slotRef st t) :: rhoOf st ts
def catS : List Sel → List Sel → List Sel
  | [], m => m
  | x :: l, m => x :: catS l m
theorem toR_ {m : Nat} {st : St} {ι : Type} {J : ι → St} {p : ι → Prop} (pre : List Sel) (ts : List Nat) (i : ι) (ρ : List Sel) (hρ : catS pre (rhoOf st ts) = ρ) (h1 : p i) (h2 : St.le m ρ st (J i)) : ToAt m J p st := toAt_ ρ i h1 h2
theorem retR_ {m : Nat} {st : St} {r0 : TV} {K : TV → List AObj → Prop} (pre : List Sel) (ts : List Nat) (ρ : List Sel) (hρ : catS pre (rhoOf st ts) = ρ) (r : TV) (os : List AObj) (h1 : idB m 0 ρ = true) (h2 : nodupB (keysOf ρ) = true) (h3 : tvLe ρ st.loc.length r0 r) (h4 : locLe ρ st.loc.length st.loc st.fz ρ os) (hk : K r os) : RetAt m st r0 K := retAt_ ρ r os h1 h2 h3 h4 hk
/-- A row with one element more, that tells of a list's begin. -/
theorem snocAt {ρ : List Sel} {N : Nat} {fz : List (Nat × CV)} {enc : Nat → List CV} {m : Nat} {F g : Nat → List CV} (h1 : ∀ j, j < m → cvsLe ρ N (resL fz (F j)) (enc j)) (h2 : ∀ j, cvsLe ρ N (resL fz (g j)) (enc m)) :
    ∀ j, j < m + 1 → cvsLe ρ N (resL fz (if j < m then F j else g (j - m))) (enc j) := by
  intro j hj
  by_cases h : j < m
  · simp only [if_pos h]; exact h1 j h
  · have e : j = m := by omega
    simp only [if_neg h]; rw [e]; exact h2 _
theorem gr_eq' {ρ : List Sel} {N k n k2 r m m' : Nat} (hr : nth ρ r = some (.grow k n k2)) (hm : m' = m) : CV.s ⟨k2, 0⟩ m' = (CV.s ⟨r, n⟩ m).rn ρ N := by
  subst hm; exact gr_eq hr
end Go.Proofs.AY
