/- A symbolic executor over the model, plain words, and contracts of the program's functions, part 0. Conditions: as each theorem tells. -/
import Derived.Calls
import Derived.Control
import Derived.Orders
import Derived.Below
import Derived.KernelRfl
import Derived.WalkKit
set_option linter.unusedVariables false
set_option linter.unusedSimpArgs false
set_option linter.unusedSectionVars false
/- AY, part A: a symbolic executor over the model: its words (abstract values, states), and what they say of a world. -/
namespace Go.Proofs.AY
open Go Go.RowKit

/-! ## 1. Abstract values -/
/-- An object: number k of the frame's list; i: which one of a family. -/
structure Ref where
  k : Nat
  i : Nat
  deriving DecidableEq

/-- A cell's value. -/
inductive CV where
  | v (x : Value)
  | d (sz n : Nat) (f : Nat → List CV)
  | p (r : Ref) (off : Nat)
  | s (r : Ref) (n : Nat)

inductive Comp where
  | c (x : CV)
  | a (l : List CV)

/-- A slot's value. -/
inductive TV where
  | c (x : CV)
  | a (l : List CV)
  | t (l : List Comp)
  | ia (sz n : Nat) (f : Nat → List CV) (i off : Nat)
  | ra (r : Ref) (sz i off : Nat)
  | bad

/-- rows: m rows of n elements each. -/
inductive AObj where
  | box (t : TypeId) (cs : List CV)
  | row (t : TypeId) (sz n : Nat) (f : Nat → List CV)
  | rows (t : TypeId) (sz m n : Nat) (f : Nat → Nat → List CV)
  | dead

/-- n: slots; fz: rows that are only read from now on. -/
structure St where
  n : Nat
  tm : List (Nat × TV)
  loc : List AObj
  fz : List (Nat × CV)

def tmGet : List (Nat × TV) → Nat → TV
  | [], _ => .bad
  | (k, x) :: l, t => match Nat.beq k t with
    | true => x
    | false => tmGet l t
def fzGet : List (Nat × CV) → Nat → Option CV
  | [], _ => none
  | (k, x) :: l, t => match Nat.beq k t with
    | true => some x
    | false => fzGet l t
def nth {α : Type} : List α → Nat → Option α
  | [], _ => none
  | x :: l, k => match k with
    | 0 => some x
    | k + 1 => nth l k
theorem nth_eq {α : Type} : ∀ (l : List α) (k : Nat), nth l k = l[k]?
  | [], k => by simp [nth]
  | x :: l, 0 => by simp [nth]
  | x :: l, k + 1 => by simp [nth, nth_eq l k]
def CV.res (fz : List (Nat × CV)) : CV → CV
  | .s r n => match fzGet fz r.k with
    | none => .s r n
    | some D => match r.i with
      | 0 => D
      | _ + 1 => .s r n
  | x => x
def Comp.map (g : CV → CV) : Comp → Comp
  | .c x => .c (g x)
  | .a l => .a (l.map g)
def TV.res (fz : List (Nat × CV)) (x : TV) : TV := match fz with
  | [] => x
  | fz => match x with
    | .c x => .c (x.res fz)
    | .a l => .a (l.map (CV.res fz))
    | .t l => .t (l.map (Comp.map (CV.res fz)))
    | x => x
def resL (fz : List (Nat × CV)) (l : List CV) : List CV := match fz with
  | [] => l
  | fz => l.map (CV.res fz)

/-! ## 2. Two lists, one by one -/
inductive All2 {α β : Type} (R : α → β → Prop) : List α → List β → Prop where
  | nil : All2 R [] []
  | cons {a : α} {b : β} {l : List α} {m : List β} : R a b → All2 R l m → All2 R (a :: l) (b :: m)

section
variable {α β : Type} {R S : α → β → Prop}
theorem All2.imp {l : List α} {m : List β} (h : All2 R l m) (hi : ∀ a b, a ∈ l → R a b → S a b) : All2 S l m := by
  induction h with
  | nil => exact .nil
  | cons h1 _ ih => exact .cons (hi _ _ List.mem_cons_self h1) (ih (fun a b ha => hi a b (List.mem_cons_of_mem _ ha)))
theorem All2.length {l : List α} {m : List β} (h : All2 R l m) : l.length = m.length := by
  induction h with
  | nil => rfl
  | cons _ _ ih => simp [ih]
theorem All2.get {l : List α} {m : List β} (h : All2 R l m) {i : Nat} {a : α} (hi : l[i]? = some a) : ∃ b, m[i]? = some b ∧ R a b := by
  induction h generalizing i with
  | nil => simp at hi
  | cons h1 _ ih =>
    cases i with
    | zero => simp at hi; subst hi; exact ⟨_, by simp, h1⟩
    | succ i => simp at hi; simpa using ih hi
theorem All2.of_get {l : List α} {m : List β} (hl : l.length = m.length) (h : ∀ (i : Nat) a b, l[i]? = some a → m[i]? = some b → R a b) : All2 R l m := by
  induction l generalizing m with
  | nil => cases m with
    | nil => exact .nil
    | cons => simp at hl
  | cons a l ih => cases m with
    | nil => simp at hl
    | cons b m => exact .cons (h 0 a b (by simp) (by simp)) (ih (by simpa using hl) (fun i x y hx hy => h (i + 1) x y (by simpa using hx) (by simpa using hy)))
theorem All2.set {l : List α} {m : List β} (h : All2 R l m) (i : Nat) {a : α} {b : β} (hab : R a b) : All2 R (l.set i a) (m.set i b) := by
  induction h generalizing i with
  | nil => exact .nil
  | cons h1 h2 ih =>
    cases i with
    | zero => exact .cons hab h2
    | succ i => exact .cons h1 (ih i)
theorem All2.append {l l' : List α} {m m' : List β} (h : All2 R l m) (h' : All2 R l' m') : All2 R (l ++ l') (m ++ m') := by
  induction h with
  | nil => exact h'
  | cons h1 _ ih => exact .cons h1 ih
theorem All2.take {l : List α} {m : List β} (h : All2 R l m) (k : Nat) : All2 R (l.take k) (m.take k) := by
  induction h generalizing k with
  | nil => simp; exact .nil
  | cons h1 _ ih => cases k with
    | zero => simp; exact .nil
    | succ k => simp; exact .cons h1 (ih k)
theorem All2.drop {l : List α} {m : List β} (h : All2 R l m) (k : Nat) : All2 R (l.drop k) (m.drop k) := by
  induction h generalizing k with
  | nil => simp; exact .nil
  | cons h1 h2 ih => cases k with
    | zero => simp; exact .cons h1 h2
    | succ k => simp; exact ih k
end

/-! ## 3. What an abstract value says of a value in a world -/
/-- A value that is only read: all that it leads to lies in blocks of Z. -/
inductive Imm (w : World) (Z : Nat → Prop) : CV → Value → Prop where
  | v {x : Value} (h : x.oneCell' = true) : Imm w Z (.v x) x
  | d {sz n : Nat} {f : Nat → List CV} {A : Option Addr} {c : Nat} (vals : Nat → Nat → Value) (hc : n ≤ c) (hm : c ≤ maxLen) (hnil : A = none → c = 0)
      (hA : 0 < n → ∃ ad, A = some ad ∧ Z ad.block ∧ ∀ i j, i < n → j < sz → w.cell? (ad.add (i * sz + j)) = some (vals i j))
      (hl : ∀ i, i < n → (f i).length = sz)
      (hv : ∀ i j x, i < n → (f i)[j]? = some x → Imm w Z x (vals i j)) : Imm w Z (.d sz n f) (.slice A n c)

theorem Imm.mono {w w' : World} {Z Z' : Nat → Prop} {x : CV} {u : Value} (h : Imm w Z x u) (hw : ∀ b, Z b → w'.heap[b]? = w.heap[b]?) (hz : ∀ b, Z b → Z' b) : Imm w' Z' x u := by
  induction h with
  | v h => exact .v h
  | @d sz n f A c vals hc hm hnil hA hl hv ih =>
    refine .d vals hc hm hnil (fun hn => ?_) hl (fun i j x hi hx => ih i j x hi hx)
    obtain ⟨ad, e, hb, hcell⟩ := hA hn
    refine ⟨ad, e, hz _ hb, fun i j hi hj => ?_⟩
    have hblk : (ad.add (i * sz + j)).block = ad.block := by unfold Addr.add; split <;> rfl
    exact (World.cell?_of_block (w := w) (by rw [hblk]; exact hw _ hb)).trans (hcell i j hi hj)
theorem Imm.one {w : World} {Z : Nat → Prop} {x : CV} {u : Value} (h : Imm w Z x u) : u.oneCell' = true := by
  cases h with
  | v h => exact h
  | d => rfl

/-- Where the objects lie: a box: a pointer to its block; a row: the slice. -/
abbrev Mp := List (Nat → Value)
def Mp.at (M : Mp) (r : Ref) : Option Value := (M[r.k]?).map (· r.i)
/-- M' tells what M tells. -/
def Mp.le (M M' : Mp) : Prop := ∀ (r : Ref) v, M.at r = some v → M'.at r = some v
theorem Mp.le.refl (M : Mp) : Mp.le M M := fun _ _ h => h
theorem Mp.le.trans {M M' M'' : Mp} (h : Mp.le M M') (h' : Mp.le M' M'') : Mp.le M M'' := fun r v hv => h' r v (h r v hv)
theorem Mp.le_append (M N : Mp) : Mp.le M (M ++ N) := fun r v hv => by
  unfold Mp.at at hv ⊢
  cases hk : M[r.k]? with
  | none => rw [hk] at hv; cases hv
  | some g => rw [List.getElem?_append_left (List.getElem?_eq_some_iff.1 hk).1, hk]; rw [hk] at hv; exact hv
def blkOf : Value → Option Nat
  | .pointer (some a) => some a.block
  | .slice (some a) _ _ => some a.block
  | _ => none

/-- A cell's value. -/
def CRel (M : Mp) (w : World) (Z : Nat → Prop) : CV → Value → Prop
  | .v x, u => u = x ∧ x.oneCell' = true
  | .d sz n f, u => Imm w Z (.d sz n f) u
  | .p r off, u => ∃ b, M.at r = some (.pointer (some ⟨b, 0, none⟩)) ∧ u = .pointer (some ⟨b, off, none⟩)
  | .s r n, u => M.at r = some u ∧ ∃ A c, u = .slice A n c

def CompRel (M : Mp) (w : World) (Z : Nat → Prop) : Comp → Value → Prop
  | .c x, u => CRel M w Z x u
  | .a l, u => ∃ vs : List Value, u = .agg vs.toArray ∧ All2 (CRel M w Z) l vs

def TRel (M : Mp) (w : World) (Z : Nat → Prop) : TV → Value → Prop
  | .c x, u => CRel M w Z x u
  | .a l, u => ∃ vs : List Value, u = .agg vs.toArray ∧ All2 (CRel M w Z) l vs
  | .t l, u => ∃ vs : List Value, u = .tuple vs.toArray ∧ All2 (CompRel M w Z) l vs
  | .ia sz n f i off, u => i < n ∧ (f i).length = sz ∧ ∃ ad : Addr, ∃ vals : Nat → Value, ad.spot = none ∧ Z ad.block ∧
      u = .pointer (some ⟨ad.block, ad.off + off, none⟩) ∧ (∀ j, j < sz → w.cell? ⟨ad.block, ad.off + j, none⟩ = some (vals j)) ∧ ∀ j x, (f i)[j]? = some x → Imm w Z x (vals j)
  | .ra r sz i off, u => ∃ b n c, M.at r = some (.slice (some ⟨b, 0, none⟩) n c) ∧ u = .pointer (some ⟨b, i * sz + off, none⟩)
  | .bad, _ => True

/-- An object: v: where it lies. -/
def ORel (M : Mp) (w : World) (Z : Nat → Prop) (v : Value) : AObj → Prop
  | .dead => True
  | .box t cs => ∃ b vs, v = .pointer (some ⟨b, 0, none⟩) ∧ w.heap[b]? = some (.cells (List.toArray vs) t (0, 0)) ∧ All2 (CRel M w Z) cs vs
  | .row t sz n f => ∃ xs, w.ownsRow 0 t sz v n xs ∧ (∀ i, i < n → (f i).length = sz) ∧
      ∀ i j x, i < n → (f i)[j]? = some x → ∃ u, xs[i * sz + j]? = some u ∧ CRel M w Z x u
  | .rows .. => False

def AObj.mem (i : Nat) : AObj → Option AObj
  | .rows t sz m n f => if i < m then some (.row t sz n (f i)) else none
  | o => if i = 0 then some o else none
def lk (loc : List AObj) (r : Ref) : Option AObj := (loc[r.k]?).bind (·.mem r.i)
def AObj.live : AObj → Bool
  | .dead => false
  | _ => true
/-- The object r is there. -/
def liveAt (loc : List AObj) (r : Ref) : Prop := ∃ o, lk loc r = some o ∧ o.live = true

/-- The blocks of objects. -/
def Blks (M : Mp) (loc : List AObj) (b : Nat) : Prop := ∃ r v, liveAt loc r ∧ M.at r = some v ∧ blkOf v = some b

/-- What has happened since w0, T being what may be turned. -/
structure Since (T : Nat → Prop) (w0 w : World) : Prop where
  os : w.os = w0.os
  tape : w.tape = w0.tape
  output : w.output = w0.output
  size : w0.heap.size ≤ w.heap.size
  block : ∀ b, b < w0.heap.size → ¬ T b → w.heap[b]? = w0.heap[b]?

structure HRel (T : Nat → Prop) (w0 : World) (M : Mp) (Z : Nat → Prop) (loc : List AObj) (w : World) : Prop where
  since : Since T w0 w
  len : M.length = loc.length
  ok : ∀ r o, lk loc r = some o → ∃ v, M.at r = some v ∧ ORel M w Z v o
  inj : ∀ r r' v v' b, liveAt loc r → liveAt loc r' → M.at r = some v → M.at r' = some v' → blkOf v = some b → blkOf v' = some b → r = r'
  zapart : ∀ r v b, liveAt loc r → M.at r = some v → blkOf v = some b → ¬ Z b
  zlt : ∀ b, Z b → b < w.heap.size
  new : ∀ r v b, liveAt loc r → M.at r = some v → blkOf v = some b → T b ∨ w0.heap.size ≤ b

structure Rel (T : Nat → Prop) (w0 : World) (M : Mp) (Z : Nat → Prop) (st : St) (a : Act) (w : World) : Prop where
  h : HRel T w0 M Z st.loc w
  size : a.tmps.size = st.n
  tm : ∀ t, TRel M w Z (tmGet st.tm t) (a.tmps.getD t undef)
  fz : ∀ k D, fzGet st.fz k = some D → ∃ v, M.at ⟨k, 0⟩ = some v ∧ Imm w Z D v
  defers : a.defers = []

end Go.Proofs.AY
/- AY, part B: what holds of a heap goes on holding: objects that are taken away, laid, written. -/
namespace Go.Proofs.AY
open Go Go.RowKit

theorem Since.refl (T : Nat → Prop) (w : World) : Since T w w := ⟨rfl, rfl, rfl, Nat.le_refl _, fun _ _ _ => rfl⟩
theorem Since.trans {T U : Nat → Prop} {w0 w w' : World} (h : Since T w0 w) (k : Since U w w') (hu : ∀ b, U b → b < w.heap.size → T b ∨ w0.heap.size ≤ b) : Since T w0 w' :=
  ⟨k.os.trans h.os, k.tape.trans h.tape, k.output.trans h.output, Nat.le_trans h.size k.size, fun b hb ht =>
    (k.block b (Nat.lt_of_lt_of_le hb h.size) (fun hu' => by rcases hu b hu' (Nat.lt_of_lt_of_le hb h.size) with h1 | h1; exact ht h1; omega)).trans (h.block b hb ht)⟩
theorem Since.drew (T : Nat → Prop) (w : World) : Since T w w.drew := ⟨rfl, rfl, rfl, Nat.le_refl _, fun _ _ _ => rfl⟩
theorem Since.alloc (T : Nat → Prop) (w : World) (o : Obj) : Since T w (w.alloc o) := ⟨rfl, rfl, rfl, by simp, fun b hb _ => Below.heap_alloc w o b hb⟩
theorem Since.setCell (w : World) (a : Addr) (u : Value) : Since (fun b => b = a.block) w (w.setCell a u) := ⟨rfl, rfl, rfl, by simp [World.setCell], fun b _ hb => Below.heap_setCell w a u b hb⟩
theorem Since.mono {T U : Nat → Prop} {w w' : World} (h : Since T w w') (hu : ∀ b, T b → U b) : Since U w w' := ⟨h.os, h.tape, h.output, h.size, fun b hb hn => h.block b hb (fun ht => hn (hu b ht))⟩

section
variable {M M' : Mp} {w w' : World} {Z Z' : Nat → Prop}
theorem CRel.mono {x : CV} {u : Value} (h : CRel M w Z x u) (hM : M.le M') (hw : ∀ b, Z b → w'.heap[b]? = w.heap[b]?) (hz : ∀ b, Z b → Z' b) : CRel M' w' Z' x u := by
  cases x with
  | v x => exact h
  | d sz n f => exact Imm.mono h hw hz
  | p r off => obtain ⟨b, h1, h2⟩ := h; exact ⟨b, hM _ _ h1, h2⟩
  | s r n => exact ⟨hM _ _ h.1, h.2⟩
theorem Imm.crel {x : CV} {u : Value} (h : Imm w Z x u) (M : Mp) : CRel M w Z x u := by
  cases h with
  | v h => exact ⟨rfl, h⟩
  | d v1 v2 v3 v4 v5 v6 v7 => exact Imm.d v1 v2 v3 v4 v5 v6 v7
theorem CompRel.mono {x : Comp} {u : Value} (h : CompRel M w Z x u) (hM : M.le M') (hw : ∀ b, Z b → w'.heap[b]? = w.heap[b]?) (hz : ∀ b, Z b → Z' b) : CompRel M' w' Z' x u := by
  cases x with
  | c x => exact CRel.mono h hM hw hz
  | a l => obtain ⟨vs, h1, h2⟩ := h; exact ⟨vs, h1, h2.imp fun _ _ _ h => CRel.mono h hM hw hz⟩
theorem TRel.mono {x : TV} {u : Value} (h : TRel M w Z x u) (hM : M.le M') (hw : ∀ b, Z b → w'.heap[b]? = w.heap[b]?) (hz : ∀ b, Z b → Z' b) : TRel M' w' Z' x u := by
  cases x with
  | c x => exact CRel.mono h hM hw hz
  | a l => obtain ⟨vs, h1, h2⟩ := h; exact ⟨vs, h1, h2.imp fun _ _ _ h => CRel.mono h hM hw hz⟩
  | t l => obtain ⟨vs, h1, h2⟩ := h; exact ⟨vs, h1, h2.imp fun _ _ _ h => CompRel.mono h hM hw hz⟩
  | ia sz n f i off =>
    obtain ⟨hi, hl, ad, vals, hs, hb, he, hc, hv⟩ := h
    exact ⟨hi, hl, ad, vals, hs, hz _ hb, he, fun j hj => (World.cell?_of_block (w := w) (a := ⟨ad.block, ad.off + j, none⟩) (hw _ hb)).trans (hc j hj), fun j x hx => (hv j x hx).mono hw hz⟩
  | ra r sz i off => obtain ⟨b, n, c, h1, h2⟩ := h; exact ⟨b, n, c, hM _ _ h1, h2⟩
  | bad => trivial
theorem own_stay {base : Nat} {e : TypeId} {size n : Nat} {v : Value} {xs : List Value} (h : w.ownsRow base e size v n xs) (hm : ∀ k, blkOf v = some k → w'.heap[k]? = w.heap[k]?) : w'.ownsRow base e size v n xs := by
  obtain ⟨h1, h2⟩ := h
  refine ⟨h1, ?_⟩
  rcases h2 with h2 | ⟨g, cap, cur, rfl, hg, hh, r⟩
  · exact .inl h2
  · exact .inr ⟨g, cap, cur, rfl, hg, (hm g rfl).trans hh, r⟩
theorem ORel.mono {v : Value} {o : AObj} (h : ORel M w Z v o) (hM : M.le M') (hw : ∀ b, Z b → w'.heap[b]? = w.heap[b]?) (hz : ∀ b, Z b → Z' b) (hb : o.live = true → ∀ b, blkOf v = some b → w'.heap[b]? = w.heap[b]?) : ORel M' w' Z' v o := by
  cases o with
  | rows => exact h.elim
  | dead => trivial
  | box t cs =>
    obtain ⟨b, vs, rfl, hh, ha⟩ := h
    exact ⟨b, vs, rfl, (hb rfl b rfl).trans hh, ha.imp fun _ _ _ h => h.mono hM hw hz⟩
  | row t sz n f =>
    obtain ⟨xs, ho, hl, hf⟩ := h
    exact ⟨xs, own_stay ho (hb rfl), hl, fun i j x hi hx => by obtain ⟨u, h1, h2⟩ := hf i j x hi hx; exact ⟨u, h1, h2.mono hM hw hz⟩⟩
end

section
variable {T : Nat → Prop} {w0 w w' : World} {M M' : Mp} {Z : Nat → Prop} {loc loc' : List AObj}

theorem HRel.get (h : HRel T w0 M Z loc w) {r : Ref} {o : AObj} (ho : lk loc r = some o) : ∃ v, M.at r = some v ∧ ORel M w Z v o := by
  obtain ⟨v, hv, hO⟩ := h.ok r o ho
  exact ⟨v, hv, hO⟩
theorem liveAt.lt (h : HRel T w0 M Z loc w) {r : Ref} (hl : liveAt loc r) {v : Value} (hv : M.at r = some v) {b : Nat} (hb : blkOf v = some b) : b < w.heap.size := by
  obtain ⟨o, ho, hlive⟩ := hl
  obtain ⟨v', hv', hO⟩ := h.ok r o ho
  obtain rfl : v = v' := Option.some.inj (hv.symm.trans hv')
  cases o with
  | rows => exact hO.elim
  | dead => cases hlive
  | box t cs =>
    obtain ⟨b', vs, rfl, hh, _⟩ := hO
    obtain rfl : b' = b := by simpa [blkOf] using hb
    exact (Array.getElem?_eq_some_iff.1 hh).1
  | row t sz n f =>
    obtain ⟨xs, ho, _⟩ := hO
    rcases ho.2 with ⟨rfl, _⟩ | ⟨g, cap, cur, rfl, _, hh, _⟩
    · simp [blkOf] at hb
    · obtain rfl : g = b := by simpa [blkOf] using hb
      exact (Array.getElem?_eq_some_iff.1 hh).1

/-- The world moves on: new blocks, draws. -/
theorem HRel.step (h : HRel T w0 M Z loc w) (hs : Since (fun _ => False) w w') : HRel T w0 M Z loc w' where
  since := h.since.trans hs (fun _ h _ => h.elim)
  len := h.len
  ok := fun r o ho => by
    obtain ⟨v, hv, hO⟩ := h.ok r o ho
    exact ⟨v, hv, hO.mono (Mp.le.refl _) (fun b hb => hs.block b (h.zlt b hb) id) (fun _ h => h) (fun hl b hb => hs.block b (liveAt.lt h ⟨o, ho, hl⟩ hv hb) id)⟩
  inj := h.inj
  zapart := h.zapart
  zlt := fun b hb => Nat.lt_of_lt_of_le (h.zlt b hb) hs.size
  new := h.new

/-- An object is taken away. -/
theorem HRel.kill (h : HRel T w0 M Z loc w) (r : Ref) (hlen : loc'.length = loc.length) (hlk : ∀ r', lk loc' r' = if r' = r ∧ lk loc r ≠ none then some .dead else lk loc r') : HRel T w0 M Z loc' w := by
  have hlive : ∀ r', liveAt loc' r' → liveAt loc r' ∧ r' ≠ r := fun r' ⟨o, ho, hl⟩ => by
    rw [hlk] at ho
    by_cases hr : r' = r ∧ lk loc r ≠ none
    · rw [if_pos hr] at ho; cases ho; cases hl
    · rw [if_neg hr] at ho
      refine ⟨⟨o, ho, hl⟩, fun e => hr ⟨e, ?_⟩⟩
      rw [← e, ho]; simp
  refine ⟨h.since, by rw [hlen]; exact h.len, fun r' o ho => ?_, fun r1 r2 v v' b h1 h2 => h.inj r1 r2 v v' b (hlive _ h1).1 (hlive _ h2).1, fun r1 v b h1 => h.zapart r1 v b (hlive _ h1).1, h.zlt, fun r1 v b h1 => h.new r1 v b (hlive _ h1).1⟩
  rw [hlk] at ho
  by_cases hr : r' = r ∧ lk loc r ≠ none
  · rw [if_pos hr] at ho
    obtain ⟨rfl, hne⟩ := hr
    obtain ⟨o', ho'⟩ := Option.ne_none_iff_exists'.1 hne
    obtain ⟨v, hv, _⟩ := h.ok r' o' ho'
    cases ho
    exact ⟨v, hv, trivial⟩
  · rw [if_neg hr] at ho
    exact h.ok r' o ho

/-- An object is laid, or written. -/
theorem HRel.put (h : HRel T w0 M Z loc w) (r : Ref) (v : Value) (o : AObj) (hdead : ¬ liveAt loc r)
    (hs : Since (fun b => blkOf v = some b) w w')
    (hfresh : ∀ b, blkOf v = some b → ¬ Z b ∧ (T b ∨ w0.heap.size ≤ b) ∧ ∀ r' v', liveAt loc r' → M.at r' = some v' → blkOf v' ≠ some b)
    (hM : M.le M') (hr : M'.at r = some v) (hlen : M'.length = loc'.length)
    (hlk : ∀ r', lk loc' r' = if r' = r then some o else lk loc r') (hO : ORel (M') w' Z v o) : HRel T w0 M' Z loc' w' := by
  have hlive : ∀ r', r' ≠ r → liveAt loc' r' → liveAt loc r' := fun r' hne ⟨o', ho, hl⟩ => by
    rw [hlk, if_neg hne] at ho; exact ⟨o', ho, hl⟩
  have hat : ∀ r', r' ≠ r → liveAt loc r' → ∀ v', M'.at r' = some v' → M.at r' = some v' := fun r' hne ⟨o', ho, hl⟩ v' hv' => by
    obtain ⟨v1, h1, _⟩ := h.ok r' o' ho
    have := hM _ _ h1
    rw [hv'] at this
    cases this
    exact h1
  have hZ : ∀ b, Z b → w'.heap[b]? = w.heap[b]? := fun b hb => hs.block b (h.zlt b hb) (fun e => (hfresh b e).1 hb)
  refine ⟨h.since.trans hs (fun b hb _ => (hfresh b hb).2.1), hlen, fun r' o' ho => ?_, fun r1 r2 v1 v2 b h1 h2 e1 e2 b1 b2 => ?_, fun r1 v1 b h1 e1 b1 => ?_, fun b hb => Nat.lt_of_lt_of_le (h.zlt b hb) hs.size, fun r1 v1 b h1 e1 b1 => ?_⟩
  · rw [hlk] at ho
    by_cases hne : r' = r
    · rw [if_pos hne] at ho; cases ho; subst hne; exact ⟨v, hr, hO⟩
    · rw [if_neg hne] at ho
      obtain ⟨v1, h1, hO1⟩ := h.ok r' o' ho
      exact ⟨v1, hM _ _ h1, hO1.mono (hM) hZ (fun _ h => h) (fun hl b hb => hs.block b (liveAt.lt h ⟨o', ho, hl⟩ h1 hb) (fun e => (hfresh b e).2.2 r' v1 ⟨o', ho, hl⟩ h1 hb))⟩
  · by_cases n1 : r1 = r
    · by_cases n2 : r2 = r
      · rw [n1, n2]
      · subst n1
        rw [hr] at e1; cases e1
        exact absurd b2 ((hfresh b b1).2.2 r2 v2 (hlive r2 n2 h2) (hat r2 n2 (hlive r2 n2 h2) v2 e2))
    · by_cases n2 : r2 = r
      · subst n2
        rw [hr] at e2; cases e2
        exact absurd b1 ((hfresh b b2).2.2 r1 v1 (hlive r1 n1 h1) (hat r1 n1 (hlive r1 n1 h1) v1 e1))
      · exact h.inj r1 r2 v1 v2 b (hlive r1 n1 h1) (hlive r2 n2 h2) (hat r1 n1 (hlive r1 n1 h1) v1 e1) (hat r2 n2 (hlive r2 n2 h2) v2 e2) b1 b2
  · by_cases n1 : r1 = r
    · subst n1; rw [hr] at e1; cases e1; exact (hfresh b b1).1
    · exact h.zapart r1 v1 b (hlive r1 n1 h1) (hat r1 n1 (hlive r1 n1 h1) v1 e1) b1
  · by_cases n1 : r1 = r
    · subst n1; rw [hr] at e1; cases e1; exact (hfresh b b1).2.1
    · exact h.new r1 v1 b (hlive r1 n1 h1) (hat r1 n1 (hlive r1 n1 h1) v1 e1) b1
end
end Go.Proofs.AY
/- AY, part C: operations that only compute, or read: what they yield. -/
namespace Go.Proofs.AY
open Go Go.RowKit

/-- What is told of a type: its cells, its bytes, is it a struct, its zero's cells, its elements' type, its fields' offsets. -/
structure TI where
  size : Nat
  bytes : Nat
  agg : Bool
  zero : List Value
  elem : Nat
  offs : List Nat
  fsz : List Nat := []
  ik : Option IntKind := none
  str : Bool := false
  bool : Bool := false
  cmp : Bool := false
abbrev TT := Nat → Option TI
/-- Structs of ints, compared. -/
def CmpOk (P : Program) (t : Nat) (n : Nat) : Prop := ∀ (xs ys : List Int) (w : World) (op : BinOp) (x y : Operand), xs.length = n → ys.length = n →
  (eqGuard op t x y (.agg (xs.map (Value.int .i64)).toArray) (.agg (ys.map (Value.int .i64)).toArray)).run P w = .ok () w ∧
  (binOp .eql t (.agg (xs.map (Value.int .i64)).toArray) (.agg (ys.map (Value.int .i64)).toArray)).run P w = .ok (.bool (decide (xs = ys))) w ∧
  (binOp .neq t (.agg (xs.map (Value.int .i64)).toArray) (.agg (ys.map (Value.int .i64)).toArray)).run P w = .ok (.bool (!decide (xs = ys))) w
structure TIOk (P : Program) (t : Nat) (ti : TI) : Prop where
  info : ∃ i z, P.info? t = some i ∧ i.size = ti.size ∧ i.bytes = ti.bytes ∧ i.zero = some z ∧ z.cells.toList = ti.zero ∧ (ti.agg = true → z = .agg z.cells) ∧ (ti.agg = false → z.cells = #[z])
  agg : ∃ d, P.underlying t = some d ∧ (ti.agg = true → ∃ fs, d = .struct fs ∧ fs.toList.map (·.offset) = ti.offs ∧ ∀ (i : Nat) f, fs.toList[i]? = some f → ∃ j, P.info? f.type = some j ∧ ti.fsz[i]? = some j.size ∧ j.size ≠ 0) ∧ (ti.agg = false → (∀ fs, d ≠ .struct fs) ∧ (∀ n e, d ≠ .array n e))
  elem : ti.elem ≠ 0 → P.underlying t = some (.slice ti.elem)
  ik : ∀ k, ti.ik = some k → P.underlying t = some (.int k)
  str : ti.str = true → P.underlying t = some .string
  bool : ti.bool = true → P.underlying t = some .bool
  pos : 0 < ti.size
  zlen : ti.zero.length = ti.size
  zone : ∀ u ∈ ti.zero, u.oneCell' = true
  cmp : ti.cmp = true → CmpOk P t ti.size
def TOk (P : Program) (T : TT) : Prop := ∀ t ti, T t = some ti → TIOk P t ti

/-- A condition: none, or one. -/
inductive Cnd where
  | t
  | p (c : Prop)
def Cnd.h : Cnd → Prop
  | .t => True
  | .p c => c
def Cnd.and (c : Cnd) (k : Prop) : Prop := match c with
  | .t => k
  | .p c => c ∧ k
theorem Cnd.and_iff (c : Cnd) (k : Prop) : c.and k ↔ c.h ∧ k := by cases c <;> simp [Cnd.and, Cnd.h]
def Cnd.or2 (c d : Cnd) : Cnd := match c with
  | .t => d
  | .p c => match d with
    | .t => .p c
    | .p d => .p (c ∧ d)
theorem Cnd.or2_h (c d : Cnd) : (c.or2 d).h ↔ c.h ∧ d.h := by cases c <;> cases d <;> simp [Cnd.or2, Cnd.h]

def tvConst : Value → TV
  | .agg _ => .bad
  | .tuple _ => .bad
  | x => .c (.v x)
def ev (st : St) (o : Operand) : TV := match o with
  | .tmp t => (tmGet st.tm t).res st.fz
  | .const x => tvConst x
  | .func f => .c (.v (.func (.func f) #[] #[]))
  | .global _ => .bad
def St.put (st : St) (d : Option Tmp) (x : TV) : St := match d with
  | some d => match Nat.blt d st.n with
    | true => { st with tm := (d, x) :: st.tm }
    | false => st
  | none => st

/-- x is a number of kind k. -/
def rng (k : IntKind) (x : Int) : Prop := match k with
  | .i64 => -9223372036854775808 ≤ x ∧ x ≤ 9223372036854775807
  | .u64 => 0 ≤ x ∧ x ≤ 18446744073709551615
  | .u8 => 0 ≤ x ∧ x ≤ 255
  | k => k.wrap x = x
theorem rng_wrap {k : IntKind} {x : Int} (h : rng k x) : k.wrap x = x := by
  cases k <;> first | exact h | (simp only [rng] at h; simp [IntKind.wrap, IntKind.bits, IntKind.signed]; first | omega | (split <;> omega))
def intBin (op : BinOp) (k : IntKind) (a b : Int) : Option (Cnd × Value) :=
  match op with
  | .add => some (.p (rng k (a + b)), .int k (a + b))
  | .sub => some (.p (rng k (a - b)), .int k (a - b))
  | .mul => some (.p (rng k (a * b)), .int k (a * b))
  | .quo => some (.p (b ≠ 0 ∧ rng k (a.tdiv b)), .int k (a.tdiv b))
  | .rem => some (.p (b ≠ 0), .int k (a.tmod b))
  | .and => some (.t, .int k (k.wrap (BitVec.ofInt k.bits a &&& BitVec.ofInt k.bits b).toNat))
  | .or => some (.t, .int k (k.wrap (BitVec.ofInt k.bits a ||| BitVec.ofInt k.bits b).toNat))
  | .xor => some (.t, .int k (k.wrap (BitVec.ofInt k.bits a ^^^ BitVec.ofInt k.bits b).toNat))
  | .eql => some (.t, .bool (a == b))
  | .neq => some (.t, .bool (a != b))
  | .lss => some (.t, .bool (decide (a < b)))
  | .leq => some (.t, .bool (decide (a ≤ b)))
  | .gtr => some (.t, .bool (decide (a > b)))
  | .geq => some (.t, .bool (decide (a ≥ b)))
  | _ => none
def strBin (op : BinOp) (a b : ByteArray) : Option (Cnd × Value) :=
  match op with
  | .add => some (.p (a.size + b.size ≤ 9223372036854775807), .string (a ++ b))
  | .eql => some (.t, .bool (a.toList == b.toList))
  | .neq => some (.t, .bool (!(a.toList == b.toList)))
  | _ => none
def intBinT (op : BinOp) (k : IntKind) (a b : Int) : Option (Cnd × TV) := match intBin op k a b with
  | some (c, x) => some (c, .c (.v x))
  | none => none
def strBinT (op : BinOp) (a b : ByteArray) : Option (Cnd × TV) := match strBin op a b with
  | some (c, x) => some (c, .c (.v x))
  | none => none
def binV (op : BinOp) (x y : TV) : Option (Cnd × TV) :=
  match x with
  | .c (.v (.int k a)) => match y with
    | .c (.v (.int k' b)) => match decide (k = k') with
      | true => intBinT op k a b
      | false => none
    | _ => none
  | .c (.v (.string a)) => match y with
    | .c (.v (.string b)) => strBinT op a b
    | _ => none
  | _ => none

/-- The cells of an object's part. -/
def seg (l : List CV) (off n : Nat) : List CV := (l.drop off).take n
def mkTV (ti : TI) (l : List CV) : Option TV := match ti.agg with
  | true => some (.a l)
  | false => match l with
    | [x] => some (.c x)
    | _ => none

/-- The object r, and what is to hold for it to be there. -/
def lkV (loc : List AObj) (r : Ref) : Option (Cnd × AObj) := match nth loc r.k with
  | some (.rows t sz m n f) => some (.p (r.i < m), .row t sz n (f r.i))
  | some o => match r.i with
    | 0 => some (.t, o)
    | _ + 1 => none
  | none => none
theorem lkV_ok {loc : List AObj} {r : Ref} {c : Cnd} {o : AObj} (h : lkV loc r = some (c, o)) (hc : c.h) : lk loc r = some o := by
  unfold lkV at h
  rw [nth_eq] at h
  unfold lk
  split at h
  · rename_i e; rw [e]; cases h; simp [AObj.mem, show r.i < _ from hc]
  · rename_i o' e1 e
    rw [e]
    split at h
    · rename_i e2
      cases h
      cases o <;> first | (simp [AObj.mem, e2]; done) | exact (e1 _ _ _ _ _ rfl).elim
    · cases h
  · cases h

def loadV (ti : TI) (st : St) (x : TV) : Option (Cnd × TV) := match x with
  | .ia sz n f i off => match Nat.ble (off + ti.size) sz with
    | true => match mkTV ti (seg (f i) off ti.size) with
      | some y => some (.t, y)
      | none => none
    | false => none
  | .ra r sz i off => match lkV st.loc r with
    | some (c, .row _ sz' n f) => match Nat.beq sz' sz with
      | true => match Nat.ble (off + ti.size) sz with
        | true => match mkTV ti (resL st.fz (seg (f i) off ti.size)) with
          | some y => some (c.or2 (.p (i < n)), y)
          | none => none
        | false => none
      | false => none
    | _ => none
  | .c (.p r off) => match lkV st.loc r with
    | some (c, .box _ cs) => match Nat.ble (off + ti.size) cs.length with
      | true => match mkTV ti (resL st.fz (seg cs off ti.size)) with
        | some y => some (c, y)
        | none => none
      | false => none
    | _ => none
  | _ => none
def addrRef : TV → Option Ref
  | .ra r _ _ _ => some r
  | .c (.p r _) => some r
  | _ => none

def fieldV (off : Nat) (x : TV) : Option TV := match x with
  | .ia sz n f i o => some (.ia sz n f i (o + off))
  | .ra r sz i o => some (.ra r sz i (o + off))
  | .c (.p r o) => some (.c (.p r (o + off)))
  | _ => none
def indexV (st : St) (esz : Nat) (j : Int) (x : TV) : Option (Cnd × TV) := match x with
  | .c (.d sz n f) => match Nat.beq sz esz with
    | true => some (.p (0 ≤ j ∧ j < n), .ia sz n f j.toNat 0)
    | false => none
  | .c (.s r n) => match lkV st.loc r with
    | some (c, .row _ sz m f) => match Nat.beq sz esz with
      | true => some (c.or2 (.p (n = m ∧ 0 ≤ j ∧ j < m)), .ra r sz j.toNat 0)
      | false => none
    | _ => none
  | _ => none
def compTV : Comp → TV
  | .c x => .c x
  | .a l => .a l

section
variable {P : Program} {T : Nat → Prop} {w0 w : World} {M : Mp} {Z : Nat → Prop} {st : St} {a : Act} {tt : TT}

theorem tvConst_ok (x : Value) : TRel M w Z (tvConst x) x := by cases x <;> first | trivial | exact ⟨rfl, rfl⟩
theorem res_ok {fz : List (Nat × CV)} (hfz : ∀ k D, fzGet fz k = some D → ∃ v, M.at ⟨k, 0⟩ = some v ∧ Imm w Z D v) {x : CV} {u : Value} (h : CRel M w Z x u) : CRel M w Z (x.res fz) u := by
  cases x with
  | s r n =>
    simp only [CV.res]
    cases hd : fzGet fz r.k with
    | none => exact h
    | some D =>
      simp only
      split
      · rename_i hi
        obtain ⟨v, h1, h2⟩ := hfz _ _ hd
        have hr : r = ⟨r.k, 0⟩ := by cases r; simp_all
        rw [hr] at h
        rw [h.1] at h1
        cases h1
        exact h2.crel M
      · exact h
  | _ => exact h
theorem resL_ok {fz : List (Nat × CV)} (hfz : ∀ k D, fzGet fz k = some D → ∃ v, M.at ⟨k, 0⟩ = some v ∧ Imm w Z D v) {l : List CV} {vs : List Value} (h : All2 (CRel M w Z) l vs) : All2 (CRel M w Z) (l.map (CV.res fz)) vs := by
  induction h with
  | nil => exact .nil
  | cons h1 _ ih => exact .cons (res_ok hfz h1) ih
theorem resL_ok' {fz : List (Nat × CV)} (hfz : ∀ k D, fzGet fz k = some D → ∃ v, M.at ⟨k, 0⟩ = some v ∧ Imm w Z D v) {l : List CV} {vs : List Value} (h : All2 (CRel M w Z) l vs) : All2 (CRel M w Z) (resL fz l) vs := by
  unfold resL
  split
  · exact h
  · exact resL_ok hfz h
theorem TV.res_ok {fz : List (Nat × CV)} (hfz : ∀ k D, fzGet fz k = some D → ∃ v, M.at ⟨k, 0⟩ = some v ∧ Imm w Z D v) {x : TV} {u : Value} (h : TRel M w Z x u) : TRel M w Z (x.res fz) u := by
  unfold TV.res
  split
  · exact h
  · split
    · exact AY.res_ok hfz h
    · obtain ⟨vs, h1, h2⟩ := h; exact ⟨vs, h1, resL_ok hfz h2⟩
    · obtain ⟨vs, h1, h2⟩ := h
      refine ⟨vs, h1, ?_⟩
      clear h1
      induction h2 with
      | nil => exact .nil
      | @cons c v l m hc _ ih =>
        refine .cons ?_ ih
        cases c with
        | c x => exact AY.res_ok hfz hc
        | a l => obtain ⟨vs', h1', h2'⟩ := hc; exact ⟨vs', h1', resL_ok hfz h2'⟩
    · exact h
theorem ev_ok (h : Rel T w0 M Z st a w) (x : Operand) : TRel M w Z (ev st x) (a.eval x) := by
  cases x with
  | tmp t => exact TV.res_ok h.fz (h.tm t)
  | const x => exact tvConst_ok x
  | func f => exact ⟨rfl, rfl⟩
  | global g => trivial

/-- w' tells the same where it matters. -/
def Same (Z : Nat → Prop) (w w' : World) : Prop := ∀ b, Z b → w'.heap[b]? = w.heap[b]?
def SameAt (M : Mp) (r : Ref) (w w' : World) : Prop := ∀ v b, M.at r = some v → blkOf v = some b → w'.heap[b]? = w.heap[b]?

theorem mkTV_ok {ti : TI} {l : List CV} {x : TV} (hx : mkTV ti l = some x) {vs : List Value} (h : All2 (CRel M w Z) l vs) : ∃ v, TRel M w Z x v ∧ (ti.agg = true → v = .agg vs.toArray) ∧ (ti.agg = false → vs = [v]) := by
  unfold mkTV at hx
  split at hx
  · rename_i hg; cases hx
    exact ⟨_, ⟨vs, rfl, h⟩, fun _ => rfl, fun h => by rw [hg] at h; cases h⟩
  · rename_i hg0
    have hg : ¬ ti.agg = true := by rw [hg0]; simp
    cases h with
    | nil => cases hx
    | cons h1 h2 =>
      cases h2 with
      | nil => cases hx; exact ⟨_, h1, fun h => absurd h hg, fun _ => rfl⟩
      | cons => cases hx

theorem run_loadAt {t : Nat} {ti : TI} (hT : TIOk P t ti) {w' : World} {A : Addr} {vs : List Value} (hl : vs.length = ti.size) (hc : ∀ j u, vs[j]? = some u → w'.cell? (A.add j) = some u) :
    (ti.agg = true → (Instr.loadAt t (.pointer (some A))).run P w' = .ok (.agg vs.toArray) w') ∧ (∀ v, ti.agg = false → vs = [v] → (Instr.loadAt t (.pointer (some A))).run P w' = .ok v w') := by
  obtain ⟨i, z, hi, hs, hb, _⟩ := hT.info
  obtain ⟨d, hd, h1, h2⟩ := hT.agg
  have hlc := run_loadCells_list (P := P) w' A vs hc
  constructor
  · intro hg
    obtain ⟨fs, rfl, _⟩ := h1 hg
    rw [hl, ← hs] at hlc
    simp [Instr.loadAt, Instr.sureAddr, loadVar, isAgg, underlying, hd, sizeOf, typeInfo, hi, hlc]
  · intro v hg hv
    subst hv
    obtain ⟨n1, n2⟩ := h2 hg
    have hc0 : w'.cell? A = some v := by simpa [Addr.add] using hc 0 v (by simp)
    have hag : (isAgg t).run P w' = .ok false w' := by
      simp only [isAgg, underlying, Sem.run_bind, run_program, Result.andThen_ok, hd, Sem.run_pure]
    simp [Instr.loadAt, Instr.sureAddr, loadVar, hag, hc0]

theorem All2_seg {R : CV → Value → Prop} {l : List CV} {vs : List Value} (h : All2 R l vs) (off n : Nat) : All2 R (seg l off n) ((vs.drop off).take n) := (h.drop off).take n
theorem seg_get {l : List Value} {off n j : Nat} {u : Value} (h : ((l.drop off).take n)[j]? = some u) : j < n ∧ l[off + j]? = some u := by
  rw [List.getElem?_take] at h
  split at h
  · rename_i hj; rw [List.getElem?_drop] at h; exact ⟨hj, h⟩
  · cases h

theorem loadV_ok (hr : Rel T w0 M Z st a w) {t : Nat} {ti : TI} (hT : TIOk P t ti) {x : TV} {u : Value} (hx : TRel M w Z x u) {c : Cnd} {y : TV} (hl : loadV ti st x = some (c, y)) (hc : c.h) :
    ∃ v, TRel M w Z y v ∧ ∀ w', Same Z w w' → (∀ r, addrRef x = some r → SameAt M r w w') → (Instr.loadAt t u).run P w' = .ok v w' := by
  have fin : ∀ {l : List CV} {vs : List Value} {A : Addr}, mkTV ti l = some y → All2 (CRel M w Z) l vs → vs.length = ti.size → u = .pointer (some A) →
      (∀ w', Same Z w w' → (∀ r, addrRef x = some r → SameAt M r w w') → ∀ j q, vs[j]? = some q → w'.cell? (A.add j) = some q) → ∃ v, TRel M w Z y v ∧ ∀ w', Same Z w w' → (∀ r, addrRef x = some r → SameAt M r w w') → (Instr.loadAt t u).run P w' = .ok v w' := by
    intro l vs A hm ha hlen hu hcell
    obtain ⟨v, hv, h1, h2⟩ := mkTV_ok hm ha
    refine ⟨v, hv, fun w' hs hat => ?_⟩
    subst hu
    have hrun := run_loadAt (P := P) hT (w' := w') hlen (hcell w' hs hat)
    by_cases hg : ti.agg = true
    · rw [h1 hg]; exact hrun.1 hg
    · have hg' : ti.agg = false := by simpa using hg
      exact hrun.2 v hg' (h2 hg')
  have hadd : ∀ (b o j : Nat), (⟨b, o, none⟩ : Addr).add j = ⟨b, o + j, none⟩ := fun b o j => by unfold Addr.add; split <;> simp_all
  unfold loadV at hl
  split at hl
  · rename_i sz n f i off
    split at hl
    · rename_i hb
      have hb : off + ti.size ≤ sz := Nat.le_of_ble_eq_true hb
      split at hl
      · rename_i y' hy'
        obtain ⟨hi, hlen, ad, vals, hsp, hz, rfl, hcell, himm⟩ := hx
        cases hl
        have hfl : (seg (f i) off ti.size).length = ti.size := by simp [seg, hlen]; omega
        refine fin (vs := (List.range ti.size).map fun j => vals (off + j)) (A := ⟨ad.block, ad.off + off, none⟩) hy' ?_ (by simp) rfl ?_
        · refine All2.of_get (by simp [hfl]) (fun j p q hp hq => ?_)
          have hj : j < ti.size := by have := (List.getElem?_eq_some_iff.1 hp).1; omega
          simp [hj] at hq
          subst hq
          have hp' : (f i)[off + j]? = some p := by
            unfold seg at hp
            rw [List.getElem?_take, if_pos hj, List.getElem?_drop] at hp
            exact hp
          exact (himm _ _ hp').crel M
        · intro w' hs _ j q hq
          have hj : j < ti.size := by have := (List.getElem?_eq_some_iff.1 hq).1; simpa using this
          simp [hj] at hq
          subst hq
          rw [hadd]
          have := hcell (off + j) (by omega)
          rw [← Nat.add_assoc] at this
          exact (World.cell?_of_block (w := w) (a := ⟨ad.block, ad.off + off + j, none⟩) (hs _ hz)).trans this
      · cases hl
    · cases hl
  · rename_i r sz i off
    split at hl
    · rename_i c0 rt sz' n f ho0
      split at hl
      · rename_i hsz
        have hsz : sz' = sz := Nat.eq_of_beq_eq_true hsz
        split at hl
        · rename_i hb
          have hb : off + ti.size ≤ sz := Nat.le_of_ble_eq_true hb
          split at hl
          · rename_i y' hy'
            cases hl
            subst hsz
            obtain ⟨hc0, hin⟩ := (Cnd.or2_h _ _).1 hc
            have hin : i < n := hin
            have ho := lkV_ok ho0 hc0
            obtain ⟨b, n', c', hM, rfl⟩ := hx
            obtain ⟨v', hv', xs, hown, hlen, hcells⟩ := hr.h.ok _ _ ho
            rw [hM] at hv'
            cases hv'
            have hfl : (seg (f i) off ti.size).length = ti.size := by simp [seg, hlen i hin]; omega
            have hxl : xs.length = n * sz' := hown.1
            have hle : (i + 1) * sz' ≤ n * sz' := Nat.mul_le_mul_right _ hin
            rw [Nat.add_mul, Nat.one_mul] at hle
            refine fin (vs := (xs.drop (i * sz' + off)).take ti.size) (A := ⟨b, i * sz' + off, none⟩) hy' ?_ (by simp; omega) rfl ?_
            · refine resL_ok' hr.fz (All2.of_get (by rw [hfl]; simp; omega) (fun j p q hp hq => ?_))
              obtain ⟨hj, hq'⟩ := seg_get hq
              have hp' : (f i)[off + j]? = some p := by
                unfold seg at hp
                rw [List.getElem?_take, if_pos hj, List.getElem?_drop] at hp
                exact hp
              obtain ⟨u', h1, h2⟩ := hcells i (off + j) p hin hp'
              rw [Nat.add_assoc, h1] at hq'
              cases hq'
              exact h2
            · intro w' hs hat j q hq
              obtain ⟨hj, hq'⟩ := seg_get hq
              rw [hadd]
              have h1 := hown.cells (g := b) rfl (i * sz' + off + j) q hq'
              rw [hadd, Nat.zero_add] at h1
              exact (World.cell?_of_block (w := w) (a := ⟨b, i * sz' + off + j, none⟩) (hat r rfl _ b hM rfl)).trans h1
          · cases hl
        · cases hl
      · cases hl
    · cases hl
  · rename_i r off
    split at hl
    · rename_i c0 bt cs ho0
      split at hl
      · rename_i hb
        have hb : off + ti.size ≤ cs.length := Nat.le_of_ble_eq_true hb
        split at hl
        · rename_i y' hy'
          cases hl
          have ho := lkV_ok ho0 hc
          obtain ⟨b, hM, rfl⟩ := hx
          obtain ⟨v', hv', b', vs, rfl, hheap, hall⟩ := hr.h.ok _ _ ho
          rw [hM] at hv'
          cases hv'
          have hvl : cs.length = vs.length := hall.length
          refine fin (vs := (vs.drop off).take ti.size) (A := ⟨b, off, none⟩) hy' (resL_ok' hr.fz (All2_seg hall off ti.size)) (by simp; omega) rfl ?_
          intro w' hs hat j q hq
          obtain ⟨hj, hq'⟩ := seg_get hq
          rw [hadd]
          refine (World.cell?_of_block (w := w) (a := ⟨b, off + j, none⟩) (hat r rfl _ b hM rfl)).trans ?_
          simp [World.cell?, hheap, hq']
        · cases hl
      · cases hl
    · cases hl
  · cases hl
end
end Go.Proofs.AY
/- AY, part D: one operation that yields a value: what it yields. -/
namespace Go.Proofs.AY
open Go Go.RowKit

def cellsTV : TV → Option (List CV)
  | .c x => some [x]
  | .a l => some l
  | _ => none

def offOf (tt : TT) (t f : Nat) : Option Nat := match tt t with
  | some ti => match ti.agg with
    | true => nth ti.offs f
    | false => none
  | none => none
def elemOf (tt : TT) (t : Nat) : Option (Nat × TI) := match tt t with
  | some ti => match Nat.beq ti.elem 0 with
    | true => none
    | false => match tt ti.elem with
      | some te => some (ti.elem, te)
      | none => none
  | none => none
def lenV (ti : TI) (x : TV) : Option (Cnd × TV) := match ti.str with
  | true => match x with
    | .c (.v (.string s)) => some (.t, .c (.v (.int .i64 s.size)))
    | _ => none
  | false => match Nat.beq ti.elem 0 with
    | true => none
    | false => match x with
      | .c (.d _ n _) => some (.t, .c (.v (.int .i64 n)))
      | .c (.s _ n) => some (.t, .c (.v (.int .i64 n)))
      | .c (.v (.slice _ n _)) => some (.t, .c (.v (.int .i64 n)))
      | _ => none

def val (tt : TT) (st : St) (op : Op) : Option (Cnd × TV) :=
  match op with
  | .move x => some (.t, ev st x)
  | .assign x => some (.t, ev st x)
  | .nilCheck x => match ev st x with
    | .c (.p r o) => some (.t, .c (.p r o))
    | .ia sz n f i o => some (.t, .ia sz n f i o)
    | .ra r sz i o => some (.t, .ra r sz i o)
    | _ => none
  | .binOp op _ x y _ => binV op (ev st x) (ev st y)
  | .unOp .not _ x => match ev st x with
    | .c (.v (.bool b)) => some (.t, .c (.v (.bool !b)))
    | _ => none
  | .unOp .neg _ x => match ev st x with
    | .c (.v (.int k n)) => some (.t, .c (.v (.int k (k.wrap (0 - n)))))
    | _ => none
  | .convert s d x => match tt s with
    | some _ => match tt d with
      | some td => match td.ik with
        | some k => match ev st x with
          | .c (.v (.int _ n)) => some (.p (rng k n), .c (.v (.int k n)))
          | _ => none
        | none => none
      | none => none
    | none => none
  | .fieldAddr t x f => match offOf tt t f with
    | some off => match fieldV off (ev st x) with
      | some y => some (.t, y)
      | none => none
    | none => none
  | .indexAddr t x i => match elemOf tt t with
    | some (_, te) => match ev st i with
      | .c (.v (.int _ j)) => indexV st te.size j (ev st x)
      | _ => none
    | none => none
  | .load t x => match tt t with
    | some ti => loadV ti st (ev st x)
    | none => none
  | .extract x i => match ev st x with
    | .t l => match nth l i with
      | some c => some (.t, compTV c)
      | none => none
    | _ => none
  | .call c => match c.callee with
    | .builtin .len => match c.args.toList with
      | [x] => match c.argTypes.toList with
        | [t] => match tt t with
          | some ti => lenV ti (ev st x)
          | none => none
        | _ => none
      | _ => none
    | _ => none
  | _ => none

section
variable {P : Program} {T : Nat → Prop} {w0 w : World} {M : Mp} {Z : Nat → Prop} {st : St} {a : Act} {tt : TT}

theorem offOf_ok {t f off : Nat} (h : offOf tt t f = some off) : ∃ ti, tt t = some ti ∧ ti.agg = true ∧ ti.offs[f]? = some off := by
  unfold offOf at h
  split at h
  · rename_i ti hti
    split at h
    · rename_i hg; rw [nth_eq] at h; exact ⟨ti, hti, hg, h⟩
    · cases h
  · cases h
theorem elemOf_ok {t e : Nat} {te : TI} (h : elemOf tt t = some (e, te)) : ∃ ti, tt t = some ti ∧ ti.elem ≠ 0 ∧ ti.elem = e ∧ tt e = some te := by
  unfold elemOf at h
  split at h
  · rename_i ti hti
    split at h
    · cases h
    · rename_i h0
      have h0 : ti.elem ≠ 0 := by
        intro e; rw [e] at h0; cases h0
      split at h
      · rename_i te' hte; cases h; exact ⟨ti, hti, h0, rfl, hte⟩
      · cases h
  · cases h
theorem binV_ok {op : BinOp} {tx : TypeId} {x y : Operand} {ty : TypeId} {X Y : TV} {u v : Value} (hx : TRel M w Z X u) (hy : TRel M w Z Y v) {c : Cnd} {r : TV} (hb : binV op X Y = some (c, r)) (hc : c.h) :
    ∃ q, TRel M w Z r q ∧ ∀ w', (do eqGuard op tx x y u v; binOp op tx u v : Sem Value).run P w' = .ok q w' := by
  unfold binV at hb
  split at hb
  · rename_i k m
    split at hb
    · rename_i k' n
      obtain ⟨rfl, _⟩ := hx
      obtain ⟨rfl, _⟩ := hy
      split at hb
      · rename_i hk
        have hk : k = k' := of_decide_eq_true hk
        subst hk
        unfold intBinT at hb
        split at hb
        · rename_i c' p hp
          cases hb
          refine ⟨p, ?_, fun w' => ?_⟩
          · unfold intBin at hp
            cases op <;> first | (cases hp; exact ⟨rfl, rfl⟩) | cases hp
          · unfold intBin at hp
            cases op <;> first | (cases hp; simp [eqGuard, binOp, Op.intArith, Op.intDiv, Op.intBits, Op.intCmp]; done) | (cases hp; simp only [Cnd.h] at hc; simp [eqGuard, binOp, Op.intDiv, hc]; done) | (cases hp; have hw := rng_wrap hc; simp [eqGuard, binOp, Op.intArith, hw]; done) | (cases hp; have hw := rng_wrap hc.2; have h0 := hc.1; simp [eqGuard, binOp, Op.intDiv, hw, h0]; done) | cases hp
        · cases hb
      · cases hb
    · cases hb
  · rename_i s
    split at hb
    · rename_i t
      obtain ⟨rfl, _⟩ := hx
      obtain ⟨rfl, _⟩ := hy
      unfold strBinT at hb
      split at hb
      · rename_i c' p hp
        cases hb
        refine ⟨p, ?_, fun w' => ?_⟩
        · unfold strBin at hp
          cases op <;> first | (cases hp; exact ⟨rfl, rfl⟩) | cases hp
        · unfold strBin at hp
          by_cases hop : op = .add
          · subst hop
            cases hp
            have hn : ¬ (((s.size + t.size : Nat) : Int) > IntKind.i64.max) := by
              have hc' : s.size + t.size ≤ 9223372036854775807 := hc
              show ¬ (((s.size + t.size : Nat) : Int) > 9223372036854775807)
              omega
            simp only [eqGuard, binOp, Op.stringOp, if_neg hn]
            rfl
          · cases op <;> first | (exact absurd rfl hop) | (cases hp; simp [eqGuard, binOp, Op.stringOp]; done) | cases hp
      · cases hb
    · cases hb
  · cases hb

theorem add_spot (ad : Addr) (j : Nat) (h : (ad.add j).spot = none) (i : Nat) (hij : j ≤ i) : ad.add i = ⟨(ad.add j).block, (ad.add j).off + (i - j), none⟩ := by
  unfold Addr.add at *
  by_cases hi : i = 0
  · have hj : j = 0 := by omega
    subst hi; subst hj
    simp at h ⊢
    cases ad; simp_all
  · by_cases hj : j = 0
    · subst hj; simp [hi]
    · simp [hi, hj]; omega

theorem indexV_ok (hr : Rel T w0 M Z st a w) {t e : Nat} {i : TypeInfo} (ht : P.underlying t = some (.slice e)) {esz : Nat} (hi : P.info? e = some i) (hsz : i.size = esz) (h0 : 0 < esz) {X : TV} {u : Value} (hx : TRel M w Z X u) {k : IntKind} {j : Int} {c : Cnd} {r : TV}
    (hb : indexV st esz j X = some (c, r)) (hc : c.h) :
    ∃ q, TRel M w Z r q ∧ ∀ w', (Instr.indexAt t u (.int k j)).run P w' = .ok q w' := by
  unfold indexV at hb
  have hrun : ∀ (A : Addr) (n cap : Nat) (w' : World), 0 ≤ j → j < n → (Instr.indexAt t (.slice (some A) n cap) (.int k j)).run P w' = .ok (.pointer (some (A.add (j.toNat * esz)))) w' := by
    intro A n cap w' h1 h2
    simp [Instr.indexAt, asIntOf, run_underlying ht, sizeOf, typeInfo, hi, hsz, h1, h2]
  split at hb
  · rename_i sz n f
    split at hb
    · rename_i hs
      have hs : sz = esz := Nat.eq_of_beq_eq_true hs
      cases hb
      subst hs
      obtain ⟨h1, h2⟩ := hc
      cases hx with
      | @d _ _ _ A cap vals hcap hm hnil hA hl hv =>
        obtain ⟨ad, rfl, hz, hcell⟩ := hA (by omega)
        have hjn : j.toNat < n := by omega
        refine ⟨_, ?_, fun w' => hrun ad n cap w' h1 h2⟩
        have hsp : (ad.add (j.toNat * sz)).spot = none := by
          have hc0 := hcell j.toNat 0 hjn h0
          rw [Nat.add_zero] at hc0
          unfold World.cell? at hc0
          cases hsp : (ad.add (j.toNat * sz)).spot with
          | none => rfl
          | some s => rw [hsp] at hc0; split at hc0 <;> simp at hc0
        have hblk : (ad.add (j.toNat * sz)).block = ad.block := by unfold Addr.add; split <;> rfl
        refine ⟨hjn, hl _ hjn, ad.add (j.toNat * sz), vals j.toNat, hsp, by rw [hblk]; exact hz, ?_, fun q hq => ?_, fun q x hq => hv _ q x hjn hq⟩
        · rw [Nat.add_zero]; congr 2
          generalize ad.add (j.toNat * sz) = B at hsp
          cases B; simp_all
        · have := hcell j.toNat q hjn hq
          rwa [add_spot ad (j.toNat * sz) hsp (j.toNat * sz + q) (by omega), Nat.add_sub_cancel_left] at this
    · cases hb
  · rename_i q n
    split at hb
    · rename_i c0 rt sz m f ho0
      split at hb
      · rename_i hs
        have hs : sz = esz := Nat.eq_of_beq_eq_true hs
        cases hb
        subst hs
        obtain ⟨hc0, hmn, h1, h2⟩ := (Cnd.or2_h _ _).1 hc
        subst hmn
        have ho := lkV_ok ho0 hc0
        obtain ⟨hM, A, cap, rfl⟩ := hx
        obtain ⟨v, hv, xs, hown, _⟩ := hr.h.ok _ _ ho
        rw [hM] at hv
        cases hv
        have hA : ∃ g, A = some ⟨g, 0, none⟩ := by
          rcases hown.2 with ⟨he, h0'⟩ | ⟨g, cap', cur, he, _⟩
          · cases he; omega
          · cases he; exact ⟨g, rfl⟩
        obtain ⟨g, rfl⟩ := hA
        refine ⟨.pointer (some ⟨g, j.toNat * sz + 0, none⟩), ⟨g, n, cap, hM, rfl⟩, fun w' => ?_⟩
        rw [hrun _ _ _ w' h1 h2]
        congr 3
        unfold Addr.add; split <;> simp_all
      · cases hb
    · cases hb
  · cases hb

def isLoad : Op → Bool
  | .load _ _ => true
  | _ => false
/-- The objects that an operation's value may hang on. -/
def opRef (st : St) : Op → Option Ref
  | .load _ x => addrRef (ev st x)
  | _ => none

theorem run_mk {o : Oper} {w' : World} {s : Sem Value} {v : Value} (h : s.run P w' = .ok v w') (he : execOp a.eval o = (do pure (Next.value (← s)) : Sem Next)) : (execOp a.eval o).run P w' = .ok (.value v) w' := by
  rw [he]
  show (s >>= fun x => pure (Next.value x) : Sem Next).run P w' = _
  simp [h]

theorem val_ok (hT : TOk P tt) (hr : Rel T w0 M Z st a w) {o : Oper} {c : Cnd} {r : TV} (hv : val tt st o.op = some (c, r)) (hc : c.h) :
    ∃ v, TRel M w Z r v ∧ ∀ w', (isLoad o.op = true → Same Z w w' ∧ ∀ q, opRef st o.op = some q → SameAt M q w w') → (execOp a.eval o).run P w' = .ok (.value v) w' := by
  cases hop : o.op with
  | move x => rw [hop] at hv; cases hv; exact ⟨_, ev_ok hr x, fun w' _ => by simp [execOp, hop]⟩
  | assign x => rw [hop] at hv; cases hv; exact ⟨_, ev_ok hr x, fun w' _ => by simp [execOp, hop]⟩
  | nilCheck x =>
    rw [hop] at hv
    have hx := ev_ok hr x
    refine ⟨a.eval x, ?_, fun w' _ => ?_⟩
    · simp only [val] at hv
      generalize ev st x = X at hv hx
      split at hv <;> first | (cases hv; exact hx) | cases hv
    · have : ∃ A, a.eval x = .pointer (some A) := by
        simp only [val] at hv
        generalize ev st x = X at hv hx
        split at hv
        · obtain ⟨b, _, h2⟩ := hx; exact ⟨_, h2⟩
        · obtain ⟨_, _, ad, vals, _, _, h2, _⟩ := hx; exact ⟨_, h2⟩
        · obtain ⟨b, n, c', _, h2⟩ := hx; exact ⟨_, h2⟩
        · cases hv
      obtain ⟨A, hA⟩ := this
      simp [execOp, hop, hA]
  | binOp op tx x y ty =>
    rw [hop] at hv
    obtain ⟨q, h1, h2⟩ := binV_ok (P := P) (tx := tx) (x := x) (y := y) (ty := ty) (ev_ok hr x) (ev_ok hr y) hv hc
    exact ⟨q, h1, fun w' _ => run_mk (h2 w') (by simp [execOp, hop])⟩
  | unOp op tx x =>
    rw [hop] at hv
    have hx := ev_ok hr x
    cases op <;> simp only [val] at hv
    all_goals first | (cases hv; done) | skip
    all_goals
      generalize ev st x = X at hv hx
      split at hv
      · cases hv
        obtain ⟨he, _⟩ := hx
        exact ⟨_, ⟨rfl, rfl⟩, fun w' _ => by simp [execOp, hop, he, Op.unary, Op.intArith]⟩
      · cases hv
  | convert s d x =>
    rw [hop] at hv
    have hx := ev_ok hr x
    simp only [val] at hv
    generalize ev st x = X at hv hx
    split at hv
    · rename_i ti hs
      split at hv
      · rename_i td htd
        split at hv
        · rename_i k hik
          split at hv
          · rename_i k' n
            cases hv
            obtain ⟨he, _⟩ := hx
            obtain ⟨ds, hds, _⟩ := (hT _ _ hs).agg
            have hdd := (hT _ _ htd).ik _ hik
            refine ⟨_, ⟨rfl, rfl⟩, fun w' _ => run_mk (s := convert s d (a.eval x)) ?_ (by simp [execOp, hop])⟩
            rw [he]
            have hw := rng_wrap hc
            simp [convert, run_underlying hds, run_underlying hdd, Conv.intToInt, hw]
          · cases hv
        · cases hv
      · cases hv
    · cases hv
  | fieldAddr t x f =>
    rw [hop] at hv
    have hx := ev_ok hr x
    simp only [val] at hv
    generalize ev st x = X at hv hx
    split at hv
    · rename_i off hoff
      split at hv
      · rename_i y hy
        cases hv
        obtain ⟨ti, hti, hg, hf⟩ := offOf_ok hoff
        obtain ⟨d, hd, h1, _⟩ := (hT _ _ hti).agg
        obtain ⟨fs, rfl, hof, hsz⟩ := h1 hg
        rw [← hof] at hf
        simp only [List.getElem?_map, Option.map_eq_some_iff] at hf
        obtain ⟨fd, hfd, rfl⟩ := hf
        obtain ⟨j, hj, _, hj0⟩ := hsz f fd hfd
        have hfd' : fs[f]? = some fd := by simpa using hfd
        have hrun : ∀ (A : Addr) (w' : World), A.spot = none → (Instr.fieldAt t (.pointer (some A)) f).run P w' = .ok (.pointer (some ⟨A.block, A.off + fd.offset, none⟩)) w' := by
          intro A w' hs
          simp [Instr.fieldAt, run_underlying hd, hfd', Instr.sureAddr, fieldPlace, sizeOf, typeInfo, hj, hj0]
          unfold Addr.add
          split
          · rename_i h0; cases A; simp_all
          · rfl
        unfold fieldV at hy
        split at hy <;> cases hy
        · obtain ⟨hi, hl, ad, vals, hs, hz, hu, hc1, hc2⟩ := hx
          exact ⟨_, ⟨hi, hl, ad, vals, hs, hz, rfl, hc1, hc2⟩, fun w' _ => run_mk (s := Instr.fieldAt t (a.eval x) f) (by rw [hu, hrun _ w' rfl]; simp [Nat.add_assoc]) (by simp [execOp, hop])⟩
        · obtain ⟨b, n, c', hM, hu⟩ := hx
          exact ⟨_, ⟨b, n, c', hM, rfl⟩, fun w' _ => run_mk (s := Instr.fieldAt t (a.eval x) f) (by rw [hu, hrun _ w' rfl]; simp [Nat.add_assoc]) (by simp [execOp, hop])⟩
        · obtain ⟨b, hM, hu⟩ := hx
          exact ⟨_, ⟨b, hM, rfl⟩, fun w' _ => run_mk (s := Instr.fieldAt t (a.eval x) f) (by rw [hu, hrun _ w' rfl]) (by simp [execOp, hop])⟩
      · cases hv
    · cases hv
  | indexAddr t x i =>
    rw [hop] at hv
    have hx := ev_ok hr x
    have hi := ev_ok hr i
    simp only [val] at hv
    split at hv
    · rename_i e te hte
      split at hv
      · rename_i k j hei
        rw [hei] at hi
        obtain ⟨hie, _⟩ := hi
        obtain ⟨ti, hti, h0, rfl, he⟩ := elemOf_ok hte
        obtain ⟨inf, z, hinf, hsz, _⟩ := (hT _ _ he).info
        obtain ⟨q, h1, h2⟩ := indexV_ok hr ((hT _ _ hti).elem h0) hinf hsz (hT _ _ he).pos hx (k := k) hv hc
        exact ⟨q, h1, fun w' _ => run_mk (s := Instr.indexAt t (a.eval x) (a.eval i)) (by rw [hie]; exact h2 w') (by simp [execOp, hop])⟩
      · cases hv
    · cases hv
  | load t x =>
    rw [hop] at hv
    simp only [val] at hv
    split at hv
    · rename_i ti hti
      obtain ⟨v, h1, h2⟩ := loadV_ok hr (hT _ _ hti) (ev_ok hr x) hv hc
      exact ⟨v, h1, fun w' hs => run_mk (s := Instr.loadAt t (a.eval x)) (h2 w' (hs rfl).1 (fun q hq' => (hs rfl).2 q (by simp only [opRef]; exact hq'))) (by simp [execOp, hop])⟩
    · cases hv
  | extract x i =>
    rw [hop] at hv
    have hx := ev_ok hr x
    simp only [val] at hv
    generalize ev st x = X at hv hx
    split at hv
    · split at hv
      · rename_i cm hcm
        rw [nth_eq] at hcm
        cases hv
        obtain ⟨vs, hu, hall⟩ := hx
        obtain ⟨v, hv1, hv2⟩ := hall.get hcm
        refine ⟨v, by cases cm <;> exact hv2, fun w' _ => run_mk (s := Instr.extract (a.eval x) i) ?_ (by simp [execOp, hop])⟩
        rw [hu]
        simp [Instr.extract, hv1]
      · cases hv
    · cases hv
  | call cl =>
    rw [hop] at hv
    simp only [val] at hv
    split at hv
    · rename_i hcal
      split at hv
      · rename_i x hargs
        split at hv
        · rename_i t htys
          split at hv
          · rename_i ti hti
            have hx := ev_ok hr x
            have hrun : ∀ w' v, (Builtin.len_ #[t] o.type #[a.eval x]).run P w' = .ok v w' → (execOp a.eval o).run P w' = .ok (.value v) w' := by
              intro w' v hl
              have ha : cl.args = #[x] := by rw [← Array.toArray_toList (xs := cl.args), hargs]
              have ht : cl.argTypes = #[t] := by rw [← Array.toArray_toList (xs := cl.argTypes), htys]
              simp [execOp, hop, resolve, hcal, ha, ht, invoke, builtin, hl]
            generalize ev st x = X at hv hx
            unfold lenV at hv
            split at hv
            · rename_i hstr
              split at hv
              · rename_i s
                cases hv
                obtain ⟨hu, _⟩ := hx
                exact ⟨_, ⟨rfl, rfl⟩, fun w' _ => hrun w' _ (by rw [hu]; simp [Builtin.len_, run_underlying ((hT _ _ hti).str hstr), goInt])⟩
              · cases hv
            · split at hv
              · cases hv
              · rename_i h0
                have h0 : ti.elem ≠ 0 := by
                  intro e; rw [e] at h0; cases h0
                have hsl := (hT _ _ hti).elem h0
                split at hv
                · rename_i sz n f
                  cases hv
                  generalize hu : a.eval x = U at hx hrun
                  cases hx with
                  | d vals h1 h2 h3 h4 h5 h6 => exact ⟨_, ⟨rfl, rfl⟩, fun w' _ => hrun w' _ (by simp [Builtin.len_, run_underlying hsl, goInt])⟩
                · rename_i r n
                  cases hv
                  obtain ⟨_, A, c', hu⟩ := hx
                  exact ⟨_, ⟨rfl, rfl⟩, fun w' _ => hrun w' _ (by rw [hu]; simp [Builtin.len_, run_underlying hsl, goInt])⟩
                · rename_i A n c'
                  cases hv
                  obtain ⟨hu, _⟩ := hx
                  exact ⟨_, ⟨rfl, rfl⟩, fun w' _ => hrun w' _ (by rw [hu]; simp [Builtin.len_, run_underlying hsl, goInt])⟩
                · cases hv
          · cases hv
        · cases hv
      · cases hv
    · cases hv
  | _ => rw [hop] at hv; cases hv
end
end Go.Proofs.AY
/- AY, part E: values written out; a row of this frame is frozen (read only from then on); slots; new objects. -/
namespace Go.Proofs.AY
open Go Go.RowKit

/-! ## Values written out (so that what follows does not compute them again) -/
def vNf (u : Value) (K : Value → Prop) : Prop := match u with
  | .int k n => K (.int k n)
  | .bool b => K (.bool b)
  | .string s => K (.string s)
  | u => K u
def cvNf (x : CV) (K : CV → Prop) : Prop := match x with
  | .v u => vNf u fun u => K (.v u)
  | .d sz n f => K (.d sz n f)
  | .p r off => match r with | ⟨k, i⟩ => K (.p ⟨k, i⟩ off)
  | .s r n => match r with | ⟨k, i⟩ => K (.s ⟨k, i⟩ n)
def cvsNf : List CV → (List CV → Prop) → Prop
  | [], K => K []
  | x :: l, K => cvNf x fun x => cvsNf l fun l => K (x :: l)
def compsNf : List Comp → (List Comp → Prop) → Prop
  | [], K => K []
  | .c x :: l, K => cvNf x fun x => compsNf l fun l => K (.c x :: l)
  | .a xs :: l, K => cvsNf xs fun xs => compsNf l fun l => K (.a xs :: l)
def tvNf (x : TV) (K : TV → Prop) : Prop := match x with
  | .c x => cvNf x fun x => K (.c x)
  | .a l => cvsNf l fun l => K (.a l)
  | .t l => compsNf l fun l => K (.t l)
  | .ia sz n f i off => K (.ia sz n f i off)
  | .ra r sz i off => match r with | ⟨k, j⟩ => K (.ra ⟨k, j⟩ sz i off)
  | .bad => K .bad
def objNf (o : AObj) (K : AObj → Prop) : Prop := match o with
  | .box t cs => cvsNf cs fun cs => K (.box t cs)
  | .row t sz n f => K (.row t sz n f)
  | .rows t sz m n f => K (.rows t sz m n f)
  | .dead => K .dead
def locNf : List AObj → (List AObj → Prop) → Prop
  | [], K => K []
  | o :: l, K => objNf o fun o => locNf l fun l => K (o :: l)
theorem vNf_eq (u : Value) (K : Value → Prop) : vNf u K ↔ K u := by cases u <;> exact Iff.rfl
theorem cvNf_eq (x : CV) (K : CV → Prop) : cvNf x K ↔ K x := by cases x <;> first | (simp only [cvNf, vNf_eq]; done) | exact Iff.rfl
theorem cvsNf_eq : ∀ (l : List CV) (K : List CV → Prop), cvsNf l K ↔ K l
  | [], _ => Iff.rfl
  | x :: l, K => by simp only [cvsNf, cvNf_eq, cvsNf_eq l]
theorem compsNf_eq : ∀ (l : List Comp) (K : List Comp → Prop), compsNf l K ↔ K l
  | [], _ => Iff.rfl
  | .c x :: l, K => by simp only [compsNf, cvNf_eq, compsNf_eq l]
  | .a xs :: l, K => by simp only [compsNf, cvsNf_eq, compsNf_eq l]
theorem tvNf_eq (x : TV) (K : TV → Prop) : tvNf x K ↔ K x := by
  cases x <;> first | (simp only [tvNf, cvNf_eq, cvsNf_eq, compsNf_eq]; done) | exact Iff.rfl
theorem objNf_eq (o : AObj) (K : AObj → Prop) : objNf o K ↔ K o := by cases o <;> first | (simp only [objNf, cvsNf_eq]; done) | exact Iff.rfl
theorem locNf_eq : ∀ (l : List AObj) (K : List AObj → Prop), locNf l K ↔ K l
  | [], _ => Iff.rfl
  | o :: l, K => by simp only [locNf, objNf_eq, locNf_eq l]
def setK {α : Type} : List α → Nat → α → (List α → Prop) → Prop
  | [], _, _, K => K []
  | x :: l, k, o, K => match k with
    | 0 => K (o :: l)
    | k + 1 => setK l k o fun l => K (x :: l)
theorem setK_eq {α : Type} : ∀ (l : List α) (k : Nat) (o : α) (K : List α → Prop), setK l k o K ↔ K (l.set k o)
  | [], _, _, _ => Iff.rfl
  | x :: l, 0, o, K => Iff.rfl
  | x :: l, k + 1, o, K => by simp only [setK, setK_eq l, List.set_cons_succ]
def pushK {α : Type} : List α → α → (List α → Prop) → Prop
  | [], o, K => K [o]
  | x :: l, o, K => pushK l o fun l => K (x :: l)
theorem pushK_eq {α : Type} : ∀ (l : List α) (o : α) (K : List α → Prop), pushK l o K ↔ K (l ++ [o])
  | [], _, _ => Iff.rfl
  | x :: l, o, K => by simp only [pushK, pushK_eq l, List.cons_append]
def nums : List Nat := [0, 1, 2, 3, 4, 5, 6, 7, 8, 9, 10, 11, 12, 13, 14, 15, 16, 17, 18, 19, 20, 21, 22, 23, 24, 25, 26, 27, 28, 29, 30, 31, 32, 33, 34, 35, 36, 37, 38, 39, 40]
def numK (n : Nat) : List Nat → (Nat → Prop) → Prop
  | [], K => K n
  | x :: l, K => match Nat.beq n x with
    | true => K x
    | false => numK n l K
theorem numK_eq (n : Nat) : ∀ (l : List Nat) (K : Nat → Prop), numK n l K ↔ K n
  | [], _ => Iff.rfl
  | x :: l, K => by
    simp only [numK]
    split
    · rename_i h; rw [Nat.eq_of_beq_eq_true h]
    · exact numK_eq n l K

/-- The slot d gets x. -/
def St.putK (st : St) (d : Option Tmp) (x : TV) (K : St → Prop) : Prop := match st with
  | ⟨n, tm, loc, fz⟩ => match d with
    | some d => match Nat.blt d n with
      | true => tvNf x fun x => K ⟨n, (d, x) :: tm, loc, fz⟩
      | false => K ⟨n, tm, loc, fz⟩
    | none => K ⟨n, tm, loc, fz⟩
theorem St.putK_eq (st : St) (d : Option Tmp) (x : TV) (K : St → Prop) : st.putK d x K ↔ K (st.put d x) := by
  obtain ⟨n, tm, loc, fz⟩ := st
  cases d with
  | none => exact Iff.rfl
  | some d =>
    simp only [St.putK, St.put]
    cases hb : Nat.blt d n <;> simp only [tvNf_eq]

def CV.immB : CV → Bool
  | .v _ => true
  | .d _ _ _ => true
  | _ => false
/-- Row k is frozen. -/
def St.frz (st : St) (k sz n : Nat) (f : Nat → List CV) : St := { st with loc := st.loc.set k .dead, fz := (k, .d sz n (fun i => resL st.fz (f i))) :: st.fz }
def St.frzK (st : St) (k sz n : Nat) (f : Nat → List CV) (K : St → Prop) : Prop := match st with
  | ⟨s, tm, loc, fz⟩ => setK loc k .dead fun loc => K ⟨s, tm, loc, (k, .d sz n (fun i => resL fz (f i))) :: fz⟩
theorem St.frzK_eq (st : St) (k sz n : Nat) (f : Nat → List CV) (K : St → Prop) : st.frzK k sz n f K ↔ K (st.frz k sz n f) := by
  obtain ⟨s, tm, loc, fz⟩ := st
  simp only [St.frzK, setK_eq, St.frz]

section
variable {T : Nat → Prop} {w0 w w' : World} {M M' : Mp} {Z : Nat → Prop} {st : St} {a : Act}

theorem lk_set_ne {loc : List AObj} {k : Nat} {o : AObj} {r : Ref} (h : r.k ≠ k) : lk (loc.set k o) r = lk loc r := by
  unfold lk; rw [List.getElem?_set_ne (Ne.symm h)]
theorem lk_set_eq {loc : List AObj} {k i : Nat} {o : AObj} (h : k < loc.length) : lk (loc.set k o) ⟨k, i⟩ = o.mem i := by
  unfold lk; simp [h]
theorem lk_lt {loc : List AObj} {r : Ref} {o : AObj} (h : lk loc r = some o) : r.k < loc.length := by
  unfold lk at h
  cases hk : loc[r.k]? with
  | none => rw [hk] at h; cases h
  | some => exact (List.getElem?_eq_some_iff.1 hk).1
theorem mem_one {o : AObj} {i : Nat} {o' : AObj} (hn : ∀ t sz m n f, o ≠ .rows t sz m n f) (h : o.mem i = some o') : i = 0 ∧ o' = o := by
  cases o <;> first | exact absurd rfl (hn _ _ _ _ _) | (simp only [AObj.mem] at h; split at h <;> cases h; exact ⟨by assumption, rfl⟩)
theorem lk_kill {loc : List AObj} {k : Nat} {o : AObj} (ho : loc[k]? = some o) (hn : ∀ t sz m n f, o ≠ .rows t sz m n f) (r' : Ref) : lk (loc.set k .dead) r' = if r' = ⟨k, 0⟩ ∧ lk loc ⟨k, 0⟩ ≠ none then some .dead else lk loc r' := by
  have hk : k < loc.length := (List.getElem?_eq_some_iff.1 ho).1
  have h0 : lk loc ⟨k, 0⟩ = some o := by
    unfold lk; rw [show (⟨k, 0⟩ : Ref).k = k from rfl, ho]
    cases o <;> first | exact absurd rfl (hn _ _ _ _ _) | rfl
  by_cases hr : r'.k = k
  · obtain ⟨k', i'⟩ := r'
    simp only at hr
    subst hr
    rw [lk_set_eq hk]
    by_cases hi : i' = 0
    · subst hi; rw [if_pos ⟨rfl, by rw [h0]; simp⟩]; rfl
    · rw [if_neg (fun e => hi (by have := e.1; simp at this; exact this))]
      unfold lk; rw [show (⟨k', i'⟩ : Ref).k = k' from rfl, ho]
      cases o <;> first | exact absurd rfl (hn _ _ _ _ _) | simp [AObj.mem, hi]
  · rw [lk_set_ne hr, if_neg (fun e => hr (by rw [e.1]))]

theorem Rel.frz (h : Rel T w0 M Z st a w) {k : Nat} {t : TypeId} {sz n : Nat} {f : Nat → List CV} (ho : st.loc[k]? = some (.row t sz n f)) (him : ∀ i, i < n → (resL st.fz (f i)).all CV.immB = true) :
    ∃ Z', (∀ b, Z b → Z' b) ∧ (∀ b, Z' b → Z b ∨ T b ∨ w0.heap.size ≤ b) ∧ Rel T w0 M Z' (st.frz k sz n f) a w := by
  have hlk : lk st.loc ⟨k, 0⟩ = some (.row t sz n f) := by unfold lk; rw [show (⟨k, 0⟩ : Ref).k = k from rfl, ho]; rfl
  have hlv : liveAt st.loc ⟨k, 0⟩ := ⟨_, hlk, rfl⟩
  obtain ⟨u, hu, xs, hown, hlen, hcells⟩ := h.h.ok _ _ hlk
  refine ⟨fun b => Z b ∨ blkOf u = some b, fun b hb => .inl hb, fun b hb => hb.imp id (fun e => h.h.new _ u b hlv hu e), ?_⟩
  have himm : Imm w (fun b => Z b ∨ blkOf u = some b) (.d sz n (fun i => resL st.fz (f i))) u := by
    have hc : ∃ A c, u = .slice A n c ∧ n ≤ c ∧ c ≤ maxLen ∧ (A = none → c = 0) ∧ (0 < n → ∃ g, A = some ⟨g, 0, none⟩) := by
      rcases hown.2 with ⟨rfl, rfl⟩ | ⟨g, cap, cur, rfl, _, _, h1, h2, _⟩
      · exact ⟨none, 0, rfl, Nat.le_refl _, by simp [maxLen], fun _ => rfl, fun h => absurd h (by omega)⟩
      · exact ⟨_, cap, rfl, h1, h2, (fun h => by cases h), fun _ => ⟨g, rfl⟩⟩
    obtain ⟨A, c, rfl, hnc, hcm, hnil, hA⟩ := hc
    have hrl : ∀ i, (resL st.fz (f i)).length = (f i).length := fun i => by unfold resL; split <;> simp
    refine .d (fun i j => xs.getD (i * sz + j) undef) hnc hcm hnil (fun hn => ?_) (fun i hi => by rw [hrl]; exact hlen i hi) (fun i j x hi hx => ?_)
    · obtain ⟨g, rfl⟩ := hA hn
      refine ⟨_, rfl, .inr rfl, fun i j hi hj => ?_⟩
      have hlt : i * sz + j < xs.length := by
        rw [hown.1]
        have : (i + 1) * sz ≤ n * sz := Nat.mul_le_mul_right _ hi
        rw [Nat.add_mul, Nat.one_mul] at this
        omega
      have := hown.cells (g := g) rfl (i * sz + j) (xs.getD (i * sz + j) undef) (by rw [List.getD_eq_getElem?_getD, List.getElem?_eq_getElem hlt]; rfl)
      exact this
    · have hb := List.all_eq_true.1 (him i hi) x (List.mem_of_getElem? hx)
      have hfx : ∃ x0, (f i)[j]? = some x0 ∧ (x = x0 ∨ x = x0.res st.fz) := by
        unfold resL at hx
        split at hx
        · exact ⟨x, hx, .inl rfl⟩
        · rw [List.getElem?_map] at hx
          obtain ⟨x0, h1, h2⟩ := Option.map_eq_some_iff.1 hx
          exact ⟨x0, h1, .inr h2.symm⟩
      obtain ⟨x0, hx0, hxe⟩ := hfx
      obtain ⟨v, hv, hr0⟩ := hcells i j x0 hi hx0
      have hr : CRel M w Z x v := by
        rcases hxe with rfl | rfl
        · exact hr0
        · exact res_ok h.fz hr0
      rw [List.getD_eq_getElem?_getD, hv]
      show Imm w _ x v
      cases x with
      | v y => obtain ⟨rfl, h1⟩ := hr; exact .v h1
      | d => exact Imm.mono hr (fun _ _ => rfl) (fun b hb => .inl hb)
      | p => cases hb
      | s => cases hb
  have hk := h.h.kill (loc' := st.loc.set k .dead) ⟨k, 0⟩ (by simp) (lk_kill ho (by intros; simp))
  have hold : ∀ r, liveAt (st.loc.set k .dead) r → liveAt st.loc r ∧ r ≠ ⟨k, 0⟩ := fun r ⟨o, h1, h2⟩ => by
    rw [lk_kill ho (by intros; simp)] at h1
    split at h1
    · cases h1; cases h2
    · rename_i hne
      exact ⟨⟨o, h1, h2⟩, fun e => hne ⟨e, by rw [hlk]; simp⟩⟩
  refine ⟨⟨h.h.since, by simp [St.frz, h.h.len], fun r o h1 => ?_, hk.inj, fun r v b h1 h2 h3 h4 => ?_, fun b hb => ?_, hk.new⟩, h.size, fun t => (h.tm t).mono (Mp.le.refl _) (fun _ _ => rfl) (fun b hb => .inl hb), fun k' D hD => ?_, h.defers⟩
  · obtain ⟨v, hv, hO⟩ := hk.ok r o h1
    exact ⟨v, hv, hO.mono (Mp.le.refl _) (fun _ _ => rfl) (fun b hb => .inl hb) (fun _ _ _ => rfl)⟩
  · rcases h4 with h4 | h4
    · exact hk.zapart r v b h1 h2 h3 h4
    · exact (hold r h1).2 (h.h.inj r ⟨k, 0⟩ v u b (hold r h1).1 hlv h2 hu h3 h4)
  · rcases hb with hb | hb
    · exact h.h.zlt b hb
    · exact liveAt.lt h.h hlv hu hb
  · simp only [St.frz, fzGet] at hD
    split at hD
    · rename_i e
      have e := Nat.eq_of_beq_eq_true e
      cases hD
      subst e
      exact ⟨u, hu, himm⟩
    · obtain ⟨v, h1, h2⟩ := h.fz k' D hD
      exact ⟨v, h1, h2.mono (fun _ _ => rfl) (fun b hb => .inl hb)⟩

/-- What the members of a family are is written into the elements of row q that lead to them; the family is only read from then on. -/
def St.weave (st : St) (k q : Nat) (t : TypeId) (sz n : Nat) (f : Nat → List CV) (pos sz' n' : Nat) (g : Nat → Nat → List CV) : St :=
  { st with loc := (st.loc.set k .dead).set q (.row t sz n (fun j => (f j).set pos (.d sz' n' (fun i => resL st.fz (g j i))))) }
def St.weaveK (st : St) (k q : Nat) (t : TypeId) (sz n : Nat) (f : Nat → List CV) (pos sz' n' : Nat) (g : Nat → Nat → List CV) (K : St → Prop) : Prop := match st with
  | ⟨s, tm, loc, fz⟩ => setK loc k .dead fun loc => setK loc q (.row t sz n (fun j => (f j).set pos (.d sz' n' (fun i => resL fz (g j i))))) fun loc => K ⟨s, tm, loc, fz⟩
theorem St.weaveK_eq (st : St) (k q : Nat) (t : TypeId) (sz n : Nat) (f : Nat → List CV) (pos sz' n' : Nat) (g : Nat → Nat → List CV) (K : St → Prop) : st.weaveK k q t sz n f pos sz' n' g K ↔ K (st.weave k q t sz n f pos sz' n' g) := by
  obtain ⟨s, tm, loc, fz⟩ := st
  simp only [St.weaveK, setK_eq, St.weave]
theorem row_imm (hfz : ∀ k D, fzGet st.fz k = some D → ∃ v, M.at ⟨k, 0⟩ = some v ∧ Imm w Z D v) {t : TypeId} {sz n : Nat} {f : Nat → List CV} {u : Value} (hO : ORel M w Z u (.row t sz n f)) (him : ∀ i, i < n → (resL st.fz (f i)).all CV.immB = true)
    {Z' : Nat → Prop} (hz : ∀ b, Z b → Z' b) (hub : ∀ b, blkOf u = some b → Z' b) : Imm w Z' (.d sz n (fun i => resL st.fz (f i))) u := by
  obtain ⟨xs, hown, hlen, hcells⟩ := hO
  have hc : ∃ A c, u = .slice A n c ∧ n ≤ c ∧ c ≤ maxLen ∧ (A = none → c = 0) ∧ (0 < n → ∃ g, A = some ⟨g, 0, none⟩) := by
    rcases hown.2 with ⟨rfl, rfl⟩ | ⟨g, cap, cur, rfl, _, _, h1, h2, _⟩
    · exact ⟨none, 0, rfl, Nat.le_refl _, by simp [maxLen], fun _ => rfl, fun h => absurd h (by omega)⟩
    · exact ⟨_, cap, rfl, h1, h2, (fun h => by cases h), fun _ => ⟨g, rfl⟩⟩
  obtain ⟨A, c, rfl, hnc, hcm, hnil, hA⟩ := hc
  have hrl : ∀ i, (resL st.fz (f i)).length = (f i).length := fun i => by unfold resL; split <;> simp
  refine .d (fun i j => xs.getD (i * sz + j) undef) hnc hcm hnil (fun hn => ?_) (fun i hi => by rw [hrl]; exact hlen i hi) (fun i j x hi hx => ?_)
  · obtain ⟨g, rfl⟩ := hA hn
    refine ⟨_, rfl, hub g rfl, fun i j hi hj => ?_⟩
    have hlt : i * sz + j < xs.length := by
      rw [hown.1]
      have : (i + 1) * sz ≤ n * sz := Nat.mul_le_mul_right _ hi
      rw [Nat.add_mul, Nat.one_mul] at this
      omega
    have := hown.cells (g := g) rfl (i * sz + j) (xs.getD (i * sz + j) undef) (by rw [List.getD_eq_getElem?_getD, List.getElem?_eq_getElem hlt]; rfl)
    exact this
  · have hb := List.all_eq_true.1 (him i hi) x (List.mem_of_getElem? hx)
    have hfx : ∃ x0, (f i)[j]? = some x0 ∧ (x = x0 ∨ x = x0.res st.fz) := by
      unfold resL at hx
      split at hx
      · exact ⟨x, hx, .inl rfl⟩
      · rw [List.getElem?_map] at hx
        obtain ⟨x0, h1, h2⟩ := Option.map_eq_some_iff.1 hx
        exact ⟨x0, h1, .inr h2.symm⟩
    obtain ⟨x0, hx0, hxe⟩ := hfx
    obtain ⟨v, hv, hr0⟩ := hcells i j x0 hi hx0
    have hr : CRel M w Z x v := by
      rcases hxe with rfl | rfl
      · exact hr0
      · exact res_ok hfz hr0
    rw [List.getD_eq_getElem?_getD, hv]
    show Imm w _ x v
    cases x with
    | v y => obtain ⟨rfl, h1⟩ := hr; exact .v h1
    | d => exact Imm.mono hr (fun _ _ => rfl) hz
    | p => cases hb
    | s => cases hb
theorem Rel.weave (h : Rel T w0 M Z st a w) {k q : Nat} {t t' : TypeId} {sz n sz' m n' nn pos : Nat} {f : Nat → List CV} {g : Nat → Nat → List CV} (hk : st.loc[k]? = some (.rows t' sz' m n' g)) (hq : st.loc[q]? = some (.row t sz n f))
    (hnm : n ≤ m) (hp : ∀ j, j < n → (f j)[pos]? = some (.s ⟨k, j⟩ nn)) (him : ∀ i, i < m → ∀ j, j < n' → (resL st.fz (g i j)).all CV.immB = true) :
    ∃ Z', (∀ b, Z b → Z' b) ∧ (∀ b, Z' b → Z b ∨ T b ∨ w0.heap.size ≤ b) ∧ Rel T w0 M Z' (st.weave k q t sz n f pos sz' n' g) a w := by
  have hkq : k ≠ q := fun e => by rw [e, hq] at hk; cases hk
  have hkl := (List.getElem?_eq_some_iff.1 hk).1
  have hql := (List.getElem?_eq_some_iff.1 hq).1
  have hmem : ∀ i, i < m → lk st.loc ⟨k, i⟩ = some (.row t' sz' n' (g i)) := fun i hi => by unfold lk; simp only [hk, Option.bind_some, AObj.mem, if_pos hi]
  have hlq : lk st.loc ⟨q, 0⟩ = some (.row t sz n f) := by unfold lk; simp only [hq, Option.bind_some]; rfl
  let Z' : Nat → Prop := fun b => Z b ∨ ∃ i u, i < m ∧ M.at ⟨k, i⟩ = some u ∧ blkOf u = some b
  have hz : ∀ b, Z b → Z' b := fun b hb => .inl hb
  let loc' := (st.loc.set k .dead).set q (.row t sz n (fun j => (f j).set pos (.d sz' n' (fun i => resL st.fz (g j i)))))
  have hlk : ∀ r, lk loc' r = if r.k = q then (if r.i = 0 then some (.row t sz n (fun j => (f j).set pos (.d sz' n' (fun i => resL st.fz (g j i))))) else none) else if r.k = k then (if r.i = 0 then some .dead else none) else lk st.loc r := fun r => by
    unfold lk
    show ((((st.loc.set k .dead).set q _)[r.k]?).bind _) = _
    by_cases h1 : r.k = q
    · rw [if_pos h1, h1, List.getElem?_set_self (by simpa using hql)]; rfl
    · rw [if_neg h1, List.getElem?_set_ne (Ne.symm h1)]
      by_cases h2 : r.k = k
      · rw [if_pos h2, h2, List.getElem?_set_self hkl]; rfl
      · rw [if_neg h2, List.getElem?_set_ne (Ne.symm h2)]
  have hlv : ∀ r, liveAt loc' r → liveAt st.loc r ∧ r.k ≠ k := fun r ⟨o, ho, hl⟩ => by
    rw [hlk] at ho
    by_cases h1 : r.k = q
    · rw [if_pos h1] at ho
      by_cases h2 : r.i = 0
      · exact ⟨⟨_, by rw [show r = ⟨q, 0⟩ by cases r; simp_all]; exact hlq, rfl⟩, fun e => hkq (e.symm.trans h1)⟩
      · rw [if_neg h2] at ho; cases ho
    · rw [if_neg h1] at ho
      by_cases h2 : r.k = k
      · rw [if_pos h2] at ho; split at ho <;> cases ho; cases hl
      · rw [if_neg h2] at ho; exact ⟨⟨o, ho, hl⟩, h2⟩
  refine ⟨Z', hz, fun b hb => ?_, ⟨⟨h.h.since, by simp [St.weave, h.h.len], fun r o ho => ?_, fun r r' v v' b h1 h2 => h.h.inj r r' v v' b (hlv r h1).1 (hlv r' h2).1, fun r v b h1 h2 h3 h4 => ?_, fun b hb => ?_, fun r v b h1 => h.h.new r v b (hlv r h1).1⟩, h.size, fun t => (h.tm t).mono (Mp.le.refl _) (fun _ _ => rfl) hz, fun k' D hD => ?_, h.defers⟩⟩
  · rcases hb with hb | ⟨i, u, hi, hu, hb⟩
    · exact .inl hb
    · exact .inr (h.h.new _ u b ⟨_, hmem i hi, rfl⟩ hu hb)
  · have ho : lk loc' r = some o := ho
    rw [hlk] at ho
    by_cases h1 : r.k = q
    · rw [if_pos h1] at ho
      by_cases h2 : r.i = 0
      · rw [if_pos h2] at ho
        cases ho
        have hr : r = ⟨q, 0⟩ := by cases r; simp_all
        subst hr
        obtain ⟨v, hv, xs, p1, p2, p3⟩ := h.h.ok _ _ hlq
        refine ⟨v, hv, xs, p1, fun i hi => by rw [List.length_set]; exact p2 i hi, fun i j x hi hx => ?_⟩
        by_cases hj : j = pos
        · subst hj
          obtain ⟨u, hu, hc⟩ := p3 i j _ hi (hp i hi)
          have hlen := (List.getElem?_eq_some_iff.1 (hp i hi)).1
          rw [List.getElem?_set_self hlen] at hx
          cases hx
          obtain ⟨v', hv', hO⟩ := h.h.ok _ _ (hmem i (by omega))
          have huv : u = v' := Option.some.inj (hc.1.symm.trans hv')
          subst huv
          exact ⟨u, hu, row_imm h.fz hO (him i (by omega)) hz (fun b hb => .inr ⟨i, u, by omega, hv', hb⟩)⟩
        · rw [List.getElem?_set_ne (Ne.symm hj)] at hx
          obtain ⟨u, hu, hc⟩ := p3 i j x hi hx
          exact ⟨u, hu, hc.mono (Mp.le.refl _) (fun _ _ => rfl) hz⟩
      · rw [if_neg h2] at ho; cases ho
    · rw [if_neg h1] at ho
      by_cases h2 : r.k = k
      · rw [if_pos h2] at ho
        split at ho <;> cases ho
        rename_i hi
        obtain ⟨rk, ri⟩ := r
        simp only at h2 hi
        subst h2; subst hi
        have hl : rk < M.length := by rw [h.h.len]; exact hkl
        exact ⟨M[rk] 0, by unfold Mp.at; simp [List.getElem?_eq_getElem hl], trivial⟩
      · rw [if_neg h2] at ho
        obtain ⟨v, hv, hO⟩ := h.h.ok r o ho
        exact ⟨v, hv, hO.mono (Mp.le.refl _) (fun _ _ => rfl) hz (fun _ _ _ => rfl)⟩
  · rcases h4 with h4 | ⟨i, u, hi, hu, hb⟩
    · exact h.h.zapart r v b (hlv r h1).1 h2 h3 h4
    · have := h.h.inj r ⟨k, i⟩ v u b (hlv r h1).1 ⟨_, hmem i hi, rfl⟩ h2 hu h3 hb
      exact (hlv r h1).2 (by rw [this])
  · rcases hb with hb | ⟨i, u, hi, hu, hb⟩
    · exact h.h.zlt b hb
    · exact liveAt.lt h.h ⟨_, hmem i hi, rfl⟩ hu hb
  · obtain ⟨v, h1, h2⟩ := h.fz k' D hD
    exact ⟨v, h1, h2.mono (fun _ _ => rfl) hz⟩

/-- x' says what x says, or less: what is only read. -/
def imLe (x x' : CV) : Prop := match x' with
  | .d sz' n' f' => match x with
    | .d sz n f => sz = sz' ∧ n = n' ∧ ∀ i, i < n' → f i = f' i
    | .v (.slice none 0 0) => n' = 0
    | _ => False
  | x' => x = x'
def imsLe : List CV → List CV → Prop
  | [], [] => True
  | x :: l, x' :: l' => imLe x x' ∧ imsLe l l'
  | _, _ => False
theorem imLe_ok {x x' : CV} {u : Value} (h : Imm w Z x u) (hle : imLe x x') : Imm w Z x' u := by
  unfold imLe at hle
  split at hle
  · rename_i sz' n' f'
    split at hle
    · rename_i sz n f
      obtain ⟨rfl, rfl, hf⟩ := hle
      cases h with
      | d vals h1 h2 h3 h4 h5 h6 => exact Imm.d vals h1 h2 h3 h4 (fun i hi => by rw [← hf i hi]; exact h5 i hi) (fun i j x hi hx => h6 i j x hi (by rw [hf i hi]; exact hx))
    · have hn : n' = 0 := hle
      subst hn
      cases h with
      | v h => exact Imm.d (fun _ _ => undef) (Nat.le_refl _) (Nat.zero_le _) (fun _ => rfl) (fun h => absurd h (Nat.lt_irrefl _)) (fun i hi => absurd hi (Nat.not_lt_zero _)) (fun i j x hi => absurd hi (Nat.not_lt_zero _))
    · exact hle.elim
  · rw [← hle]; exact h
theorem imsLe_get : ∀ {l l' : List CV}, imsLe l l' → l.length = l'.length ∧ ∀ (j : Nat) x', l'[j]? = some x' → ∃ x, l[j]? = some x ∧ imLe x x'
  | [], [], _ => ⟨rfl, fun j x' h => by simp at h⟩
  | x :: l, x' :: l', h => by
    obtain ⟨h1, h2⟩ := imsLe_get h.2
    refine ⟨by simp [h1], fun j y hy => ?_⟩
    cases j with
    | zero => simp at hy; subst hy; exact ⟨x, by simp, h.1⟩
    | succ j => simp at hy; simpa using h2 j y hy
  | [], _ :: _, h => h.elim
  | _ :: _, [], h => h.elim
theorem Imm.le {sz n : Nat} {f f' : Nat → List CV} {u : Value} (h : Imm w Z (.d sz n f) u) (hle : ∀ i, i < n → imsLe (f i) (f' i)) : Imm w Z (.d sz n f') u := by
  cases h with
  | d vals h1 h2 h3 h4 h5 h6 =>
    refine .d vals h1 h2 h3 h4 (fun i hi => by rw [← (imsLe_get (hle i hi)).1]; exact h5 i hi) (fun i j x hi hx => ?_)
    obtain ⟨x0, hx0, hl⟩ := (imsLe_get (hle i hi)).2 j x hx
    exact imLe_ok (h6 i j x0 hi hx0) hl
/-- Row k is frozen, and reads as f'. -/
def St.frzTo (st : St) (k sz n : Nat) (f' : Nat → List CV) : St := { st with loc := st.loc.set k .dead, fz := (k, .d sz n f') :: st.fz }
def St.frzToK (st : St) (k sz n : Nat) (f' : Nat → List CV) (K : St → Prop) : Prop := match st with
  | ⟨s, tm, loc, fz⟩ => setK loc k .dead fun loc => K ⟨s, tm, loc, (k, .d sz n f') :: fz⟩
theorem St.frzToK_eq (st : St) (k sz n : Nat) (f' : Nat → List CV) (K : St → Prop) : st.frzToK k sz n f' K ↔ K (st.frzTo k sz n f') := by
  obtain ⟨s, tm, loc, fz⟩ := st
  simp only [St.frzToK, setK_eq, St.frzTo]
theorem Rel.frzTo (h : Rel T w0 M Z st a w) {k : Nat} {t : TypeId} {sz n : Nat} {f f' : Nat → List CV} (ho : st.loc[k]? = some (.row t sz n f)) (him : ∀ i, i < n → (resL st.fz (f i)).all CV.immB = true) (hle : ∀ i, i < n → imsLe (resL st.fz (f i)) (f' i)) :
    ∃ Z', (∀ b, Z b → Z' b) ∧ (∀ b, Z' b → Z b ∨ T b ∨ w0.heap.size ≤ b) ∧ Rel T w0 M Z' (st.frzTo k sz n f') a w := by
  obtain ⟨Z', h1, h2, h3⟩ := h.frz ho him
  refine ⟨Z', h1, h2, h3.h, h3.size, h3.tm, fun k' D hD => ?_, h3.defers⟩
  simp only [St.frzTo, fzGet] at hD
  have hg := h3.fz k'
  simp only [St.frz, fzGet] at hg
  split at hD
  · rename_i e
    cases hD
    rw [e] at hg
    obtain ⟨v, hv, hi⟩ := hg _ rfl
    exact ⟨v, hv, hi.le hle⟩
  · rename_i e
    rw [e] at hg
    exact hg D hD

theorem Rel.put (h : Rel T w0 M Z st a w) (d : Option Tmp) {x : TV} {v : Value} (hx : TRel M w Z x v) : Rel T w0 M Z (st.put d x) (a.put d v) w := by
  cases d with
  | none => exact h
  | some d =>
    simp only [St.put]
    split
    · rename_i hl
      have hl : d < st.n := Nat.le_of_ble_eq_true hl
      refine ⟨h.h, by simp [Act.put, h.size], fun t => ?_, h.fz, h.defers⟩
      simp only [tmGet, Act.put, Array.getD_eq_getD_getElem?, Array.getElem?_setIfInBounds]
      split
      · rename_i e
        have e := Nat.eq_of_beq_eq_true e
        subst e
        rw [if_pos rfl, if_pos (by rw [h.size]; exact hl)]
        exact hx
      · rename_i e
        have e : d ≠ t := fun e' => by rw [e', Nat.beq_refl] at e; cases e
        rw [if_neg e]
        have := h.tm t
        rwa [Array.getD_eq_getD_getElem?] at this
    · rename_i hl
      have hl : ¬ d < st.n := fun h' => by
        have h2 : Nat.blt d st.n = true := Nat.ble_eq_true_of_le (n := d + 1) (m := st.n) h'
        rw [h2] at hl; cases hl
      refine ⟨h.h, by simp [Act.put, h.size], fun t => ?_, h.fz, h.defers⟩
      simp only [Act.put, Array.getD_eq_getD_getElem?, Array.getElem?_setIfInBounds]
      have := h.tm t
      by_cases e : d = t
      · subst e
        rw [if_pos rfl, if_neg (by rw [h.size]; exact hl)]
        have hge : a.tmps.size ≤ d := by rw [h.size]; exact Nat.le_of_not_lt hl
        rw [Array.getD_eq_getD_getElem?, Array.getElem?_eq_none hge] at this
        exact this
      · rw [if_neg e]
        rwa [Array.getD_eq_getD_getElem?] at this
theorem Rel.step (h : Rel T w0 M Z st a w) (hs : Since (fun _ => False) w w') : Rel T w0 M Z st a w' :=
  ⟨h.h.step hs, h.size, fun t => (h.tm t).mono (Mp.le.refl _) (fun b hb => hs.block b (h.h.zlt b hb) id) (fun _ h => h), fun k D hD => by
    obtain ⟨v, h1, h2⟩ := h.fz k D hD
    exact ⟨v, h1, h2.mono (fun b hb => hs.block b (h.h.zlt b hb) id) (fun _ h => h)⟩, h.defers⟩
end
end Go.Proofs.AY
/- AY, part F: operations that lay or write memory. -/
namespace Go.Proofs.AY
open Go Go.RowKit

def St.pushL (st : St) (o : AObj) : St := { st with loc := st.loc ++ [o] }
/-- The object r written. -/
def setR (loc : List AObj) (r : Ref) (o : AObj) : List AObj := match nth loc r.k with
  | some (.rows t sz m n f) => match o with
    | .row _ _ _ f' => loc.set r.k (.rows t sz m n (fun j => if j = r.i then f' else f j))
    | _ => loc
  | _ => loc.set r.k o
def St.setO (st : St) (r : Ref) (o : AObj) : St := { st with loc := setR st.loc r o }
def St.setOK (st : St) (r : Ref) (o : AObj) (K : St → Prop) : Prop := match st with
  | ⟨n, tm, loc, fz⟩ => match nth loc r.k with
    | some (.rows t sz m n' f) => match o with
      | .row _ _ _ f' => setK loc r.k (.rows t sz m n' (fun j => if j = r.i then f' else f j)) fun loc => K ⟨n, tm, loc, fz⟩
      | _ => K ⟨n, tm, loc, fz⟩
    | _ => objNf o fun o => setK loc r.k o fun loc => K ⟨n, tm, loc, fz⟩
theorem St.setOK_eq (st : St) (r : Ref) (o : AObj) (K : St → Prop) : st.setOK r o K ↔ K (st.setO r o) := by
  obtain ⟨n, tm, loc, fz⟩ := st
  simp only [St.setOK, St.setO, setR]
  split
  · split <;> simp only [setK_eq]
  · simp only [objNf_eq, setK_eq]
/-- A new object; its number. -/
def St.pushK (st : St) (o : AObj) (K : St → Nat → Prop) : Prop := match st with
  | ⟨n, tm, loc, fz⟩ => objNf o fun o => numK loc.length nums fun k => AY.pushK loc o fun loc => K ⟨n, tm, loc, fz⟩ k
theorem St.pushK_eq (st : St) (o : AObj) (K : St → Nat → Prop) : st.pushK o K ↔ K (st.pushL o) st.loc.length := by
  obtain ⟨n, tm, loc, fz⟩ := st
  simp only [St.pushK, St.pushL, objNf_eq, numK_eq, AY.pushK_eq]
def splice (l : List CV) (off : Nat) (cs : List CV) : List CV := l.take off ++ cs ++ l.drop (off + cs.length)

def storeV (st : St) (addr : TV) (cs : List CV) (K : St → Prop) : Prop :=
  match addr with
  | .c (.p r off) => match lkV st.loc r with
    | some (c, .box t bs) => match Nat.ble (off + cs.length) bs.length with
      | true => c.and (st.setOK r (.box t (splice bs off cs)) K)
      | false => False
    | _ => False
  | .ra r sz i off => match lkV st.loc r with
    | some (c, .row t sz' n f) => match Nat.beq sz' sz with
      | true => match Nat.ble (off + cs.length) sz with
        | true => c.and (i < n ∧ st.setOK r (.row t sz' n (fun j => if j = i then splice (f i) off cs else f j)) K)
        | false => False
      | false => False
    | _ => False
  | _ => False

section
variable {P : Program} {T : Nat → Prop} {w0 w w' : World} {M M' : Mp} {Z : Nat → Prop} {st st' : St} {a : Act}

theorem CRel.one {x : CV} {u : Value} (h : CRel M w Z x u) : u.oneCell' = true := by
  cases x with
  | v x => obtain ⟨rfl, h⟩ := h; exact h
  | d => exact Imm.one h
  | p => obtain ⟨b, _, rfl⟩ := h; rfl
  | s => obtain ⟨_, A, c, rfl⟩ := h; rfl
theorem cells_one {u : Value} (h : u.oneCell' = true) : u.cells = #[u] := by cases u <;> first | rfl | cases h
theorem cellsTV_ok {x : TV} {u : Value} (h : TRel M w Z x u) {cs : List CV} (hc : cellsTV x = some cs) : All2 (CRel M w Z) cs u.cells.toList := by
  cases x with
  | c x => cases hc; rw [cells_one (CRel.one h)]; exact .cons h .nil
  | a l => cases hc; obtain ⟨vs, rfl, h2⟩ := h; exact h2
  | _ => cases hc
theorem All2.ones {l : List CV} {vs : List Value} (h : All2 (CRel M w Z) l vs) : ∀ u ∈ vs, u.oneCell' = true := by
  induction h with
  | nil => intro u hu; cases hu
  | cons h1 _ ih => intro u hu; rcases List.mem_cons.1 hu with rfl | hu; exact h1.one; exact ih u hu

/-- A new object of this frame. -/
theorem Rel.lay (h : Rel T w0 M Z st a w) (o : AObj) (v : Value) (hn : ∀ t sz m n f, o ≠ .rows t sz m n f) (hs : Since (fun b => blkOf v = some b) w w')
    (hb : ∀ b, blkOf v = some b → ¬ Z b ∧ (T b ∨ w0.heap.size ≤ b) ∧ ∀ r' v', liveAt st.loc r' → M.at r' = some v' → blkOf v' ≠ some b)
    (hO : ORel (M ++ [fun _ => v]) w' Z v o) : Rel T w0 (M ++ [fun _ => v]) Z (st.pushL o) a w' := by
  have hle : M.le (M ++ [fun _ => v]) := Mp.le_append _ _
  have hZ : ∀ b, Z b → w'.heap[b]? = w.heap[b]? := fun b hz => hs.block b (h.h.zlt b hz) (fun e => (hb b e).1 hz)
  have hmem : ∀ i, o.mem i = if i = 0 then some o else none := fun i => by
    cases o <;> first | exact absurd rfl (hn _ _ _ _ _) | rfl
  have hlk : ∀ r', lk (st.loc ++ [o]) r' = if r' = ⟨st.loc.length, 0⟩ then some o else lk st.loc r' := fun r' => by
    obtain ⟨k, i⟩ := r'
    unfold lk
    rcases Nat.lt_trichotomy k st.loc.length with hk | hk | hk
    · rw [List.getElem?_append_left hk, if_neg (fun e => by cases e; omega)]
    · subst hk
      simp [hmem]
    · rw [List.getElem?_eq_none (by simp; omega), List.getElem?_eq_none (by simp; omega), if_neg (fun e => by cases e; omega)]
  refine ⟨h.h.put ⟨st.loc.length, 0⟩ v o ?_ hs (fun b e => hb b e) hle ?_ (by simp [St.pushL, h.h.len]) hlk hO, h.size, fun t => (h.tm t).mono hle hZ (fun _ h => h), fun k D hD => ?_, h.defers⟩
  · rintro ⟨o', h1, _⟩
    simp [lk] at h1
  · unfold Mp.at
    simp [← h.h.len]
  · obtain ⟨v', h1, h2⟩ := h.fz k D hD
    exact ⟨v', hle _ _ h1, h2.mono hZ (fun _ h => h)⟩
theorem lay_new (h : HRel T w0 M Z st.loc w) {b : Nat} (hb : w.heap.size ≤ b) : ¬ Z b ∧ (T b ∨ w0.heap.size ≤ b) ∧ ∀ r' v', liveAt st.loc r' → M.at r' = some v' → blkOf v' ≠ some b :=
  ⟨fun hz => by have := h.zlt b hz; omega, .inr (Nat.le_trans h.since.size hb), fun r' v' hl hv e => by have := liveAt.lt h hl hv e; omega⟩

theorem lk_setR {loc : List AObj} {r : Ref} {o : AObj} (ho : lk loc r = some o) {o' : AObj} (hk : (∃ t cs t' cs', o = .box t cs ∧ o' = .box t' cs') ∨ (∃ t sz n f f', o = .row t sz n f ∧ o' = .row t sz n f') ∨ ((∀ t sz m n f, loc[r.k]? ≠ some (.rows t sz m n f)) ∧ ∀ t sz m n f, o' ≠ .rows t sz m n f)) (r' : Ref) : lk (setR loc r o') r' = if r' = r then some o' else lk loc r' := by
  have hlt := lk_lt ho
  have hne : ∀ o1 : AObj, r'.k ≠ r.k → lk (loc.set r.k o1) r' = if r' = r then some o' else lk loc r' := fun o1 h => by
    rw [lk_set_ne h, if_neg (fun e => h (by rw [e]))]
  unfold setR
  rw [nth_eq]
  by_cases hrr : r'.k = r.k
  · obtain ⟨k, i'⟩ := r'
    obtain ⟨k1, i⟩ := r
    simp only at hrr hlt ⊢
    subst hrr
    split
    · rename_i t sz m n f e
      have hm : i < m ∧ o = .row t sz n (f i) := by
        unfold lk at ho
        simp only [e] at ho
        simp only [Option.bind_some, AObj.mem] at ho
        split at ho
        · rename_i hi; cases ho; exact ⟨hi, rfl⟩
        · cases ho
      obtain ⟨hi, rfl⟩ := hm
      rcases hk with ⟨_, _, _, _, hk, _⟩ | ⟨t1, sz1, n1, f1, f', hk, rfl⟩ | ⟨hk, _⟩
      · cases hk
      · cases hk
        simp only
        rw [lk_set_eq hlt]
        have e' : lk loc ⟨k, i'⟩ = if i' < m then some (.row t sz n (f i')) else none := by unfold lk; simp only [e]; rfl
        by_cases hii : i' = i
        · subst hii; simp [AObj.mem, hi]
        · rw [if_neg (fun e => hii (by cases e; rfl)), e']
          simp [AObj.mem, hii]
      · exact absurd e (hk _ _ _ _ _)
    · rename_i e1
      rw [lk_set_eq hlt]
      have ho' : ∀ t sz m n f, o' ≠ .rows t sz m n f := by
        rcases hk with ⟨_, _, _, _, _, rfl⟩ | ⟨_, _, _, _, _, _, rfl⟩ | ⟨_, h2⟩
        · intros; simp
        · intros; simp
        · exact h2
      have hmem : o'.mem i' = if i' = 0 then some o' else none := by
        cases o' <;> first | exact absurd rfl (ho' _ _ _ _ _) | rfl
      obtain ⟨oo, hoo⟩ : ∃ oo, loc[k]? = some oo := ⟨_, List.getElem?_eq_getElem hlt⟩
      have hoon : ∀ t sz m n f, oo ≠ .rows t sz m n f := fun t sz m n f e => e1 t sz m n f (by rw [hoo, e])
      have hi0 : i = 0 := by
        unfold lk at ho
        simp only [hoo, Option.bind_some] at ho
        exact (mem_one hoon ho).1
      subst hi0
      rw [hmem]
      by_cases hi : i' = 0
      · subst hi; simp
      · rw [if_neg hi, if_neg (fun e => hi (by cases e; rfl))]
        unfold lk
        simp only [hoo, Option.bind_some]
        cases oo <;> first | exact absurd rfl (hoon _ _ _ _ _) | simp [AObj.mem, hi]
  · split
    · rename_i t sz m n f e
      split
      · exact hne _ hrr
      · rename_i hx
        rw [if_neg (fun e => hrr (by rw [e]))]
    · exact hne _ hrr
theorem setR_length (loc : List AObj) (r : Ref) (o : AObj) : (setR loc r o).length = loc.length := by
  unfold setR
  split
  · split <;> simp
  · simp
/-- An object is written in its place. -/
theorem Rel.write (h : Rel T w0 M Z st a w) {r : Ref} {o o' : AObj} (ho : lk st.loc r = some o) (hk : (∃ t cs t' cs', o = .box t cs ∧ o' = .box t' cs') ∨ (∃ t sz n f f', o = .row t sz n f ∧ o' = .row t sz n f')) {v : Value} (hv : M.at r = some v) (hs : Since (fun b => blkOf v = some b) w w')
    (hO : ORel M w' Z v o') : Rel T w0 M Z (st.setO r o') a w' := by
  have hl : o.live = true := by
    rcases hk with ⟨_, _, _, _, rfl, _⟩ | ⟨_, _, _, _, _, rfl, _⟩ <;> rfl
  have hlv : liveAt st.loc r := ⟨o, ho, hl⟩
  have hfresh : ∀ b, blkOf v = some b → ¬ Z b := fun b e => h.h.zapart r v b hlv hv e
  have hZ : ∀ b, Z b → w'.heap[b]? = w.heap[b]? := fun b hz => hs.block b (h.h.zlt b hz) (fun e => hfresh b e hz)
  have hlk := lk_setR ho (hk.elim .inl (fun h => .inr (.inl h)))
  have hold : ∀ r', r' ≠ r → liveAt (setR st.loc r o') r' → liveAt st.loc r' := fun r' hne ⟨o1, h1, h2⟩ => by
    rw [hlk, if_neg hne] at h1; exact ⟨o1, h1, h2⟩
  refine ⟨⟨h.h.since.trans hs (fun b hb _ => h.h.new r v b hlv hv hb), by simp [St.setO, setR_length, h.h.len], fun r' o1 h1 => ?_, fun r1 r2 v1 v2 b h1 h2 e1 e2 b1 b2 => ?_, fun r1 v1 b h1 e1 b1 => ?_, fun b hb => Nat.lt_of_lt_of_le (h.h.zlt b hb) hs.size, fun r1 v1 b h1 e1 b1 => ?_⟩, h.size, fun t => (h.tm t).mono (Mp.le.refl _) hZ (fun _ h => h), fun k D hD => ?_, h.defers⟩
  · simp only [St.setO] at h1
    rw [hlk] at h1
    by_cases hr : r' = r
    · rw [if_pos hr] at h1; cases h1; subst hr; exact ⟨v, hv, hO⟩
    · rw [if_neg hr] at h1
      obtain ⟨v1, hv1, hO1⟩ := h.h.ok r' o1 h1
      exact ⟨v1, hv1, hO1.mono (Mp.le.refl _) hZ (fun _ h => h) (fun hl1 b hb => hs.block b (liveAt.lt h.h ⟨o1, h1, hl1⟩ hv1 hb) (fun e => hr (h.h.inj r' r v1 v b ⟨o1, h1, hl1⟩ hlv hv1 hv hb e)))⟩
  · have g1 : liveAt st.loc r1 := by
      by_cases n1 : r1 = r
      · rw [n1]; exact hlv
      · exact hold r1 n1 h1
    have g2 : liveAt st.loc r2 := by
      by_cases n2 : r2 = r
      · rw [n2]; exact hlv
      · exact hold r2 n2 h2
    exact h.h.inj r1 r2 v1 v2 b g1 g2 e1 e2 b1 b2
  · have g1 : liveAt st.loc r1 := by
      by_cases n1 : r1 = r
      · rw [n1]; exact hlv
      · exact hold r1 n1 h1
    exact h.h.zapart r1 v1 b g1 e1 b1
  · have g1 : liveAt st.loc r1 := by
      by_cases n1 : r1 = r
      · rw [n1]; exact hlv
      · exact hold r1 n1 h1
    exact h.h.new r1 v1 b g1 e1 b1
  · obtain ⟨v', h1, h2⟩ := h.fz k D hD
    exact ⟨v', h1, h2.mono hZ (fun _ h => h)⟩

theorem since_setRow (w : World) (g : Nat) (cs : Array Value) : Since (fun b => b = g) w (w.setRow g cs) := ⟨rfl, rfl, rfl, by simp [World.setRow], fun b _ hb => setRow_other w g b cs hb⟩

theorem run_storeAt {t : Nat} {ti : TI} (hT : TIOk P t ti) {g o : Nat} {bt : TypeId} {cur : Array Value} (hg : w.heap[g]? = some (.cells cur bt (0, 0))) {v : Value} (hl : v.cells.size = ti.size) (h1 : ∀ u ∈ v.cells.toList, u.oneCell' = true) (hle : o + v.cells.size ≤ cur.size) :
    (Instr.storeAt t (.pointer (some ⟨g, o, none⟩)) v).run P w = .ok () (w.setRow g (cur.toList.take o ++ v.cells.toList ++ cur.toList.drop (o + v.cells.size)).toArray) := by
  obtain ⟨i, z, hi, hs, hb, _⟩ := hT.info
  have hst := run_storeCells_at P g o bt v.cells.toList 0 cur w hg (by simpa using hle) h1
  have hsz : ¬ (v.cells.size ≠ i.size) := by rw [hs]; simpa using hl
  simp only [Instr.storeAt, Instr.sureAddr, storeVar, Sem.run_bind, Sem.run_pure, Result.andThen_ok, sizeOf, typeInfo, run_program, hi]
  rw [if_neg hsz]
  simpa using hst

theorem All2.splice {R : CV → Value → Prop} {l : List CV} {vs : List Value} (h : All2 R l vs) {cs : List CV} {us : List Value} (k : All2 R cs us) (off : Nat) : All2 R (splice l off cs) (vs.take off ++ us ++ vs.drop (off + us.length)) := by
  unfold Go.Proofs.AY.splice
  rw [k.length]
  exact ((h.take off).append k).append (h.drop _)

theorem store_row (h : Rel T w0 M Z st a w) {t : Nat} {ti : TI} (hT : TIOk P t ti) {r : Ref} {sz' i off n : Nat} {rt : TypeId} {f : Nat → List CV} {cs : List CV} {A u : Value} (hl : cs.length = ti.size) (hu : All2 (CRel M w Z) cs u.cells.toList) (hA : TRel M w Z (.ra r sz' i off) A)
    (ho : lk st.loc r = some (.row rt sz' n f)) (hin : i < n) (hoff : off + cs.length ≤ sz') (hcl : u.cells.size = cs.length) {K : St → Prop} (hs : K (st.setO r (.row rt sz' n (fun j => if j = i then splice (f i) off cs else f j)))) :
    ∃ st' w', K st' ∧ Rel T w0 M Z st' a w' ∧ (Instr.storeAt t A u).run P w = .ok () w' := by
  obtain ⟨b, n', c', hM, rfl⟩ := hA
  obtain ⟨v, hv, hO⟩ := h.h.ok r _ ho
  rw [hM] at hv
  cases hv
  obtain ⟨xs, hown, hlen, hcells⟩ := hO
  rcases hown.2 with ⟨he, _⟩ | ⟨g, cap, cur, he, _, hheap, hnc, hcm, hcs, htake⟩
  · cases he
  cases he
  have hle : (i + 1) * sz' ≤ n * sz' := Nat.mul_le_mul_right _ hin
  rw [Nat.add_mul, Nat.one_mul] at hle
  have hle2 : n * sz' ≤ c' * sz' := Nat.mul_le_mul_right _ hnc
  refine ⟨_, _, hs, h.write ho (.inr ⟨_, _, _, _, _, rfl, rfl⟩) hM ((since_setRow w b _).mono fun b' e => by rw [e]; rfl) ?_, run_storeAt hT hheap (by rw [hcl, hl]) hu.ones (by rw [hcl]; omega)⟩
  have hz : ∀ b', Z b' → (w.setRow b (cur.toList.take (i * sz' + off) ++ u.cells.toList ++ cur.toList.drop (i * sz' + off + u.cells.size)).toArray).heap[b']? = w.heap[b']? := fun b' hb => setRow_other w b b' _ (fun e => by subst e; exact h.h.zapart r _ b' ⟨_, ho, rfl⟩ hM rfl hb)
  have hun : u.cells.toList.length = cs.length := by simpa using hcl
  have hcurl : cur.toList.length = c' * sz' := by simpa using hcs
  refine ⟨xs.take (i * sz' + off) ++ u.cells.toList ++ xs.drop (i * sz' + off + u.cells.size), ⟨?_, .inr ⟨b, c', _, rfl, Nat.zero_le _, setRow_heap w b _ _ rt (0, 0) hheap, hnc, hcm, ?_, ?_⟩⟩, fun j hj => ?_, fun j q x hj hx => ?_⟩
  · have := hown.1
    simp only [List.length_append, List.length_take, List.length_drop, hun, hcl]
    omega
  · simp only [List.size_toArray, List.length_append, List.length_take, List.length_drop, hun, hcl, hcurl]
    omega
  · rw [List.toList_toArray, ← htake]
    refine List.ext_getElem? fun q => ?_
    simp only [List.getElem?_take, List.getElem?_append, List.getElem?_drop, List.length_append, List.length_take, hun, hcl, hcurl]
    have hx1 := hown.1
    by_cases hq : q < n * sz'
    · rw [if_pos hq]
      have hm1 : min (i * sz' + off) (c' * sz') = i * sz' + off := by omega
      have hm2 : min (i * sz' + off) (min (n * sz') (c' * sz')) = i * sz' + off := by omega
      rw [hm1, hm2]
      by_cases hq1 : q < i * sz' + off + cs.length
      · rw [if_pos hq1, if_pos hq1]
        by_cases hq2 : q < i * sz' + off
        · simp [hq2, hq]
        · simp [hq2]
      · rw [if_neg hq1, if_neg hq1, if_pos (by omega)]
    · rw [if_neg hq]
      have hm2 : min (i * sz' + off) (min (n * sz') (c' * sz')) = i * sz' + off := by omega
      rw [hm2, if_neg (by omega), if_neg (by omega)]
  · by_cases hji : j = i
    · simp only [hji, if_true]
      simp only [Go.Proofs.AY.splice, List.length_append, List.length_take, List.length_drop, hlen i hin]
      omega
    · simp only [hji, if_false]; exact hlen j hj
  · have hxl : xs.length = n * sz' := hown.1
    have hlej : (j + 1) * sz' ≤ n * sz' := Nat.mul_le_mul_right _ hj
    rw [Nat.add_mul, Nat.one_mul] at hlej
    by_cases hji : j = i
    · subst hji
      simp only [if_true] at hx
      have hql : q < sz' := by
        have h1 := (List.getElem?_eq_some_iff.1 hx).1
        simp only [Go.Proofs.AY.splice, List.length_append, List.length_take, List.length_drop, hlen j hin] at h1
        omega
      have hseg : All2 (CRel M w Z) (f j) ((xs.drop (j * sz')).take sz') := All2.of_get (by simp [hlen j hin]; omega) (fun q' x' u' h1 h2 => by
        obtain ⟨u1, h3, h4⟩ := hcells j q' x' hin h1
        obtain ⟨_, h5⟩ := seg_get h2
        rw [h3] at h5; cases h5; exact h4)
      have hsp := All2.splice hseg hu off
      obtain ⟨u', h1, h2⟩ := hsp.get hx
      refine ⟨u', ?_, CRel.mono h2 (Mp.le.refl _) hz (fun _ h => h)⟩
      rw [← h1]
      simp only [List.getElem?_append, List.getElem?_take, List.getElem?_drop, List.length_append, List.length_take, List.length_drop, hun, hcl, hxl]
      have e1 : min (j * sz' + off) (n * sz') = j * sz' + off := by omega
      have e2 : min off (min sz' (n * sz' - j * sz')) = off := by omega
      rw [e1, e2]
      by_cases hq1 : q < off
      · rw [if_pos (by omega), if_pos (by omega), if_pos (by omega), if_pos (by omega), if_pos (by omega), if_pos (by omega), if_pos (by omega)]
      · by_cases hq2 : q < off + cs.length
        · rw [if_pos (by omega), if_neg (by omega), if_pos (by omega), if_neg (by omega)]
          congr 1; omega
        · rw [if_neg (by omega), if_neg (by omega), if_pos (by omega)]
          congr 1; omega
    · simp only [hji, if_false] at hx
      have hql : q < sz' := by have h1 := (List.getElem?_eq_some_iff.1 hx).1; rw [hlen j hj] at h1; exact h1
      obtain ⟨u', h1, h2⟩ := hcells j q x hj hx
      refine ⟨u', ?_, CRel.mono h2 (Mp.le.refl _) hz (fun _ h => h)⟩
      rw [← h1]
      simp only [List.getElem?_append, List.getElem?_take, List.getElem?_drop, List.length_append, List.length_take, List.length_drop, hun, hcl, hxl]
      have e1 : min (i * sz' + off) (n * sz') = i * sz' + off := by omega
      rw [e1]
      rcases Nat.lt_or_ge j i with hlt | hge
      · have : (j + 1) * sz' ≤ i * sz' := Nat.mul_le_mul_right _ hlt
        rw [Nat.add_mul, Nat.one_mul] at this
        rw [if_pos (by omega), if_pos (by omega), if_pos (by omega)]
      · have : (i + 1) * sz' ≤ j * sz' := Nat.mul_le_mul_right _ (by omega)
        rw [Nat.add_mul, Nat.one_mul] at this
        rw [if_neg (by omega)]
        congr 1; omega

theorem storeV_ok (h : Rel T w0 M Z st a w) {t : Nat} {ti : TI} (hT : TIOk P t ti) {addr : TV} {cs : List CV} {A u : Value} (hA : TRel M w Z addr A) (hu : All2 (CRel M w Z) cs u.cells.toList) (hl : cs.length = ti.size) {K : St → Prop} (hs : storeV st addr cs K) :
    ∃ st' w', K st' ∧ Rel T w0 M Z st' a w' ∧ (Instr.storeAt t A u).run P w = .ok () w' := by
  have hcl : u.cells.size = cs.length := by rw [hu.length]; simp
  unfold storeV at hs
  split at hs
  · rename_i r off
    split at hs
    · rename_i c0 bt bs ho0
      split at hs
      · rename_i hc
        have hc : off + cs.length ≤ bs.length := Nat.le_of_ble_eq_true hc
        rw [Cnd.and_iff, St.setOK_eq] at hs
        have ho := lkV_ok ho0 hs.1
        obtain ⟨b, hM, rfl⟩ := hA
        obtain ⟨v, hv, hO⟩ := h.h.ok r _ ho
        rw [hM] at hv
        cases hv
        obtain ⟨b', vs, hb', hheap, hall⟩ := hO
        cases hb'
        have hvl := hall.length
        refine ⟨_, _, hs.2, h.write ho (.inl ⟨_, _, _, _, rfl, rfl⟩) hM ((since_setRow w b _).mono fun b' e => by rw [e]; rfl) ?_, run_storeAt hT hheap (by rw [hcl, hl]) hu.ones (by rw [hcl]; simp; omega)⟩
        refine ⟨b, _, rfl, setRow_heap w b _ _ bt (0, 0) hheap, ?_⟩
        have hz : ∀ b', Z b' → (w.setRow b (vs.toArray.toList.take off ++ u.cells.toList ++ vs.toArray.toList.drop (off + u.cells.size)).toArray).heap[b']? = w.heap[b']? := fun b' hb => setRow_other w b b' _ (fun e => by subst e; exact h.h.zapart r _ b' ⟨_, ho, rfl⟩ hM rfl hb)
        have := (All2.splice hall hu off).imp fun x u _ hx => CRel.mono hx (Mp.le.refl _) hz (fun _ h => h)
        simpa using this
      · exact hs.elim
    · exact hs.elim
  · rename_i r sz i off
    split at hs
    · rename_i c0 rt sz' n f ho0
      split at hs
      · rename_i hsz
        have hsz : sz' = sz := Nat.eq_of_beq_eq_true hsz
        split at hs
        · rename_i hoff
          have hoff : off + cs.length ≤ sz := Nat.le_of_ble_eq_true hoff
          rw [Cnd.and_iff, St.setOK_eq] at hs
          have ho := lkV_ok ho0 hs.1
          obtain ⟨_, hin, hs⟩ := hs
          subst hsz
          exact store_row h hT hl hu hA ho hin hoff hcl hs
        · exact hs.elim
      · exact hs.elim
    · exact hs.elim
  · exact hs.elim
end
end Go.Proofs.AY
