/- A symbolic executor over the model, plain words, and contracts of the program's functions, part 2. Conditions: as each theorem tells. -/
import Derived.Test.YteippbbcihgabaaAyB01
import Derived.Laws.OwnMore
import Derived.Laws.Small
import Derived.Laws.Cover3
import Derived.OrdersHeld
set_option linter.unusedVariables false
set_option linter.unusedSimpArgs false
set_option linter.unusedSectionVars false
/- AY, part K: a step, a list of steps. -/
namespace Go.Proofs.AY
open Go Go.RowKit

def TV.isBool (x : TV) : Option Bool := match x with
  | .c (.v (.bool b)) => some b
  | _ => none
def TV.isInt (x : TV) : Option Int := match x with
  | .c (.v (.int _ n)) => some n
  | _ => none
def bnd (st : St) (x : Option Operand) (d : Int) : Option Int := match x with
  | none => some d
  | some l => TV.isInt (ev st l)

def sliceV (tt : TT) (st : St) (t : TypeId) (x : Operand) (lo hi : Option Operand) : Option (Cnd × TV) :=
  match ev st x with
  | .c (.d sz n f) => match elemOf tt t with
    | some (_, te) => match Nat.beq te.size sz with
      | true => match bnd st lo 0 with
        | some l => match bnd st hi n with
          | some h => some (.p (0 ≤ l ∧ l ≤ h ∧ h ≤ n), .c (.d sz (h.toNat - l.toNat) (fun i => f (l.toNat + i))))
          | none => none
        | none => none
      | false => none
    | none => none
  | .c (.v (.string s)) => match tt t with
    | some ti => match ti.str with
      | true => match bnd st lo 0 with
        | some l => match bnd st hi s.size with
          | some h => some (.p (0 ≤ l ∧ l ≤ h ∧ h ≤ s.size), .c (.v (.string (s.extract l.toNat h.toNat))))
          | none => none
        | none => none
      | false => none
    | none => none
  | _ => none

/-- Two bools compared. -/
def boolV (tt : TT) (op : BinOp) (t : TypeId) (x y : TV) : Option (Cnd × TV) := match x with
  | .c (.v (.bool a)) => match y with
    | .c (.v (.bool b)) => match tt t with
      | some ti => match ti.bool with
        | true => match op with
          | .eql => some (.t, .c (.v (.bool (a == b))))
          | .neq => some (.t, .c (.v (.bool (!(a == b)))))
          | _ => none
        | false => none
      | none => none
    | _ => none
  | _ => none
def val2 (tt : TT) (st : St) (op : Op) : Option (Cnd × TV) :=
  match op with
  | .binOp o t x y u => match boolV tt o t (ev st x) (ev st y) with
    | some r => some r
    | none => val tt st (.binOp o t x y u)
  | .build t ps => match tt t with
    | some ti => match ti.agg with
      | true => match buildC ti st ps.toList with
        | some cs => some (.t, .a cs)
        | none => none
      | false => none
    | none => none
  | .slice t x lo hi none => sliceV tt st t x lo hi
  | op => val tt st op

def guardV (ops : List Oper) (st : St) (o : Oper) (body skip : St → Prop) : Prop :=
  match o.guard with
  | none => body st
  | some (j, want) => match nth ops j with
    | some oj => match oj.dst with
      | some t => match ev st (.tmp t) with
        | .c (.v (.bool b)) => match b with
          | true => match want with
            | true => body st
            | false => skip st
          | false => match want with
            | true => skip st
            | false => body st
        | .t l => match l with
          | [] => skip st
          | _ => False
        | _ => False
      | none => False
    | none => False
/-- What a comparison asks. -/
def cmpI (op : BinOp) (a b : Int) : Option Prop := match op with
  | .eql => some (a = b)
  | .neq => some (a ≠ b)
  | .lss => some (a < b)
  | .leq => some (a ≤ b)
  | .gtr => some (b < a)
  | .geq => some (b ≤ a)
  | _ => none
def cmpS (op : BinOp) (a b : ByteArray) : Option Prop := match op with
  | .eql => some (a.toList = b.toList)
  | .neq => some (a.toList ≠ b.toList)
  | _ => none
def cmpP (op : BinOp) (x y : TV) : Option Prop := match x with
  | .c (.v (.int _ a)) => match y with
    | .c (.v (.int _ b)) => cmpI op a b
    | _ => none
  | .c (.v (.string a)) => match y with
    | .c (.v (.string b)) => cmpS op a b
    | _ => none
  | _ => none
/-- What is told of a slice whose length is asked. -/
def lenP (st : St) (x : TV) (G : Prop) : Prop := match x with
  | .c (.d _ n _) => (n : Int) ≤ 9223372036854775807 → G
  | .c (.s r _) => match lkV st.loc r with
    | some (.t, .row _ _ n _) => (n : Int) ≤ 9223372036854775807 → G
    | _ => G
  | _ => G
/-- What is told of a value that an operation yields: at a comparison: either way. -/
def valK (op : Op) (st : St) (d : Option Tmp) (tv : TV) (K : St → Prop) : Prop :=
  match op with
  | .binOp op _ x y _ => match cmpP op (ev st x) (ev st y) with
    | some p => (p → st.putK d (.c (.v (.bool true))) K) ∧ (¬ p → st.putK d (.c (.v (.bool false))) K)
    | none => st.putK d tv K
  | .call c => match c.args.toList with
    | [x] => lenP st (ev st x) (st.putK d tv K)
    | _ => st.putK d tv K
  | _ => st.putK d tv K
def rowOf (sz : Nat) (cs : List CV) (i : Nat) : List CV := (List.range sz).map fun j => cs.getD (i * sz + j) (.v undef)
def intsOf (k : IntKind) : List CV → Option (List Int)
  | [] => some []
  | .v (.int k' n) :: l => match decide (k = k') with
    | true => match intsOf k l with
      | some ns => some (n :: ns)
      | none => none
    | false => none
  | _ :: _ => none
def rowFn (len sz : Nat) (cs : List CV) : Nat → List CV := match Nat.beq len 1 && Nat.beq cs.length sz with
  | true => fun _ => cs
  | false => match Nat.beq sz 1 with
    | true => match cs with
      | .v (.int k n) :: l => match intsOf k l with
        | some ns => fun i => [.v (.int k ((n :: ns).getD i 0))]
        | none => rowOf sz cs
      | _ => rowOf sz cs
    | false => rowOf sz cs
def isFn (x : TV) : Option Nat := match x with
  | .c (.v (.func (.func g) f c)) => match f.toList with
    | [] => match c.toList with
      | [] => some g
      | _ => none
    | _ => none
  | _ => none
/-- What is only read from now on: a row; a family whose members the elements of row q lead to; a row, that reads as f. -/
inductive Frz where
  | row (k : Nat)
  | weave (k q pos : Nat)
  | to (k : Nat) (f : Nat → List CV)
instance (n : Nat) : OfNat Frz n := ⟨.row n⟩
def frzsK : List Frz → St → (St → Prop) → Prop
  | [], st, K => K st
  | .row k :: ks, st, K => match nth st.loc k with
    | some (.row _ sz n f) => (∀ i, i < n → (resL st.fz (f i)).all CV.immB = true) ∧ st.frzK k sz n f (frzsK ks · K)
    | _ => False
  | .weave k q pos :: ks, st, K => match nth st.loc k with
    | some (.rows _ sz' m n' g) => match nth st.loc q with
      | some (.row t sz n f) => (n ≤ m ∧ (∃ nn, ∀ j, j < n → (f j)[pos]? = some (.s ⟨k, j⟩ nn)) ∧ ∀ i, i < m → ∀ j, j < n' → (resL st.fz (g i j)).all CV.immB = true) ∧ st.weaveK k q t sz n f pos sz' n' g (frzsK ks · K)
      | _ => False
    | _ => False
  | .to k f' :: ks, st, K => match nth st.loc k with
    | some (.row _ sz n f) => (∀ i, i < n → (resL st.fz (f i)).all CV.immB = true) ∧ (∀ i, i < n → imsLe (resL st.fz (f i)) (f' i)) ∧ st.frzToK k sz n f' (frzsK ks · K)
    | _ => False
/-- Which objects may be turned: all (none), or those of a list, as they stood at the region's beginning. -/
abbrev Lim := Option (List Nat × List AObj)
def memLe (o o1 : Option AObj) : Prop := match o with
  | some (.rows _ _ m _ _) => match o1 with
    | some (.rows _ _ m1 _ _) => m ≤ m1
    | _ => False
  | some .dead => True
  | none => True
  | some _ => match o1 with
    | some (.box _ _) => True
    | some (.row _ _ _ _) => True
    | _ => False
def keysLe (hand : List Nat) (loc loc1 : List AObj) : List Nat → Prop
  | [] => True
  | k :: ks => hasB k hand = true ∧ memLe (nth loc k) (nth loc1 k) ∧ keysLe hand loc loc1 ks
def limP (al : Lim) (loc : List AObj) (ρ : List Sel) (X : Prop) : Prop := match al with
  | none => X
  | some (hand, loc1) => keysLe hand loc loc1 (keysOf ρ) ∧ X
def St.afterK (st : St) (loc' : List AObj) (d : Option Tmp) (r : TV) (K : St → Prop) : Prop := match st with
  | ⟨n, tm, _, fz⟩ => St.putK ⟨n, tm, loc', fz⟩ d r K
theorem St.afterK_eq (st : St) (loc' : List AObj) (d : Option Tmp) (r : TV) (K : St → Prop) : st.afterK loc' d r K ↔ K (({ st with loc := loc' } : St).put d r) := by
  obtain ⟨n, tm, loc, fz⟩ := st
  exact St.putK_eq ⟨n, tm, loc', fz⟩ d r K
def placesK (loc : List AObj) (ρ : List Sel) (os : List AObj) (K : List AObj → Prop) : Prop := match places loc ρ os with
  | some loc' => locNf loc' K
  | none => False
def CallAt (P : Program) (al : Lim) (st : St) (g : Nat) (args : List Operand) (d : Option Tmp) (K : St → Prop) : Prop :=
  ∃ ρ xs' objs, nodupB (keysOf ρ) = true ∧ tvsLe ρ st.loc.length (args.map (ev st)) xs' ∧ locLe ρ st.loc.length st.loc st.fz ρ objs ∧ limP al st.loc ρ (
    CallOK P g xs' objs fun r objs' => placesK st.loc ρ (objs'.map (AObj.up ρ st.loc.length)) fun loc' => st.afterK loc' d (r.up ρ st.loc.length) K)
/-- A call: rows fs are frozen, the objects ρ are handed out. -/
def callV (P : Program) (al : Lim) (st : St) (g : Nat) (args : List Operand) (d : Option Tmp) (K : St → Prop) : Prop :=
  ∃ fs, frzsK fs st fun st => CallAt P al st g args d K

def eqLp : List Int → List Int → Prop
  | [], [] => True
  | x :: l, y :: m => x = y ∧ eqLp l m
  | _, _ => False
theorem eqLp_iff : ∀ {l m : List Int}, eqLp l m ↔ l = m
  | [], [] => by simp [eqLp]
  | [], _ :: _ => by simp [eqLp]
  | _ :: _, [] => by simp [eqLp]
  | x :: l, y :: m => by simp [eqLp, eqLp_iff (l := l) (m := m)]
def eff (P : Program) (tt : TT) (al : Lim) (st : St) (o : Oper) (K : St → Prop) : Prop :=
  match o.op with
  | .pick c x y => match ev st c with
    | .c (.v (.bool b)) => match b with
      | true => st.putK o.dst (ev st x) K
      | false => st.putK o.dst (ev st y) K
    | _ => False
  | .alloc t => match tt t with
    | some ti => st.pushK (.box t (ti.zero.map .v)) fun st k => st.putK o.dst (.c (.p ⟨k, 0⟩ 0)) K
    | none => False
  | .box t x => match cellsTV (ev st x) with
    | some cs => st.pushK (.box t cs) fun st k => st.putK o.dst (.c (.p ⟨k, 0⟩ 0)) K
    | none => False
  | .buildSlice t len ps => match elemOf tt t with
    | some (e, te) => match buildSliceC te len st ps.toList with
      | some cs => match Nat.ble (len * te.size) 16777216 with
        | true => st.pushK (.row e te.size len (rowFn len te.size cs)) fun st k => st.putK o.dst (.c (.s ⟨k, 0⟩ len)) K
        | false => False
      | none => False
    | none => False
  | .makeSlice t l c => match elemOf tt t with
    | some (e, te) => match ev st l with
      | .c (.v (.int _ n)) => match ev st c with
        | .c (.v (.int _ m)) => match decide (m = n ∧ 0 ≤ n ∧ n.toNat * te.size ≤ 16777216 ∧ te.bytes * n ≤ 281474976710656 ∧ n ≤ 16777216) with
          | true => st.pushK (.row e te.size n.toNat (fun _ => te.zero.map .v)) fun st k => st.putK o.dst (.c (.s ⟨k, 0⟩ n.toNat)) K
          | false => False
        | _ => False
      | _ => False
    | none => False
  | .store t x y => match al with
    | none => match tt t with
      | some ti => match cellsTV (ev st y) with
        | some cs => match Nat.beq cs.length ti.size with
          | true => storeV st (ev st x) cs fun st' => st'.putK o.dst .bad K
          | false => False
        | none => False
      | none => False
    | some _ => False
  | .slice t x lo hi none => match ev st x with
    | .c (.s r _) => match r.i with
      | 0 => match nth st.loc r.k with
        | some (.row _ sz n f) => (∀ i, i < n → (resL st.fz (f i)).all CV.immB = true) ∧ st.frzK r.k sz n f fun st => match val2 tt st o.op with
          | some (c, tv) => c.and (st.putK o.dst tv K)
          | none => False
        | _ => False
      | _ + 1 => False
    | _ => False
  | .binOp op t x y _ => match ev st x with
    | .c (.v (.bool a)) => match ev st y with
      | .c (.v (.bool b)) => match tt t with
        | some ti => match ti.bool with
          | true => match op with
            | .eql => (a = b → st.putK o.dst (.c (.v (.bool true))) K) ∧ (a ≠ b → st.putK o.dst (.c (.v (.bool false))) K)
            | .neq => (a ≠ b → st.putK o.dst (.c (.v (.bool true))) K) ∧ (a = b → st.putK o.dst (.c (.v (.bool false))) K)
            | _ => False
          | false => False
        | none => False
      | _ => False
    | .a l => match ev st y with
      | .a m => match tt t with
        | some ti => match ti.cmp with
          | true => match intsOf .i64 l with
            | some xs => match intsOf .i64 m with
              | some ys => match Nat.beq xs.length ti.size && Nat.beq ys.length ti.size with
                | true => match op with
                  | .eql => (eqLp xs ys → st.putK o.dst (.c (.v (.bool true))) K) ∧ (¬ eqLp xs ys → st.putK o.dst (.c (.v (.bool false))) K)
                  | .neq => (¬ eqLp xs ys → st.putK o.dst (.c (.v (.bool true))) K) ∧ (eqLp xs ys → st.putK o.dst (.c (.v (.bool false))) K)
                  | _ => False
                | false => False
              | none => False
            | none => False
          | false => False
        | none => False
      | _ => False
    | .c (.d _ n _) => match ev st y with
      | .c (.v (.slice none 0 0)) => match elemOf tt t with
        | some _ => match op with
          | .eql => (n = 0 → st.putK o.dst (.c (.v (.bool true))) K) ∧ st.putK o.dst (.c (.v (.bool false))) K
          | .neq => (n = 0 → st.putK o.dst (.c (.v (.bool false))) K) ∧ st.putK o.dst (.c (.v (.bool true))) K
          | _ => False
        | none => False
      | _ => False
    | .c (.v (.slice none 0 0)) => match ev st y with
      | .c (.v (.slice none 0 0)) => match elemOf tt t with
        | some _ => match op with
          | .eql => st.putK o.dst (.c (.v (.bool true))) K
          | .neq => st.putK o.dst (.c (.v (.bool false))) K
          | _ => False
        | none => False
      | _ => False
    | _ => False
  | .call c => match c.callee with
    | .builtin .append => match al with
      | none => match c.args.toList with
        | [x, y] => match c.argTypes.toList with
          | [t, t'] => match Nat.beq t t' with
            | true => match elemOf tt t with
              | some (e, te) => appendV te e st o.dst (ev st x) (ev st y) K
              | none => False
            | false => False
          | _ => False
        | _ => False
      | some _ => False
    | .value f => match isFn (ev st f) with
      | some g => callV P al st g c.args.toList o.dst K
      | none => False
    | _ => False
  | _ => False

def stepB (P : Program) (tt : TT) (al : Lim) (st : St) (o : Oper) (K : St → Prop) : Prop :=
  match val2 tt st o.op with
  | some (c, tv) => c.and (valK o.op st o.dst tv K)
  | none => eff P tt al st o K
def step (P : Program) (tt : TT) (al : Lim) (ops : List Oper) (st : St) (o : Oper) (K : St → Prop) : Prop :=
  guardV ops st o (fun st => stepB P tt al st o K) (fun st => st.putK o.dst (.t []) K)
def awpOps (P : Program) (tt : TT) (ops : List Oper) : List Oper → St → (St → Prop) → Prop
  | [], st, K => K st
  | o :: os, st, K => step P tt none ops st o fun st' => awpOps P tt ops os st' K
/-- What an operation that may come up out of turn leaves alone. -/
def Kept (al : Lim) (M : Mp) (Z : Nat → Prop) (w w' : World) : Prop := match al with
  | none => True
  | some (hand, loc1) => Since (fun b => ∃ r v, liveAt loc1 r ∧ M.at r = some v ∧ blkOf v = some b ∧ hasB r.k hand = true) w w' ∧ ∀ b, Z b → w'.heap[b]? = w.heap[b]?

section
variable {P : Program} {C : Ctx} {w w' : World} {M M' : Mp} {Z : Nat → Prop} {st st' : St} {a : Act} {tt : TT} {al : Lim}

theorem RelC.put (h : RelC C M Z st a w) (d : Option Tmp) {x : TV} {v : Value} (hx : TRel M w Z x v) : RelC C M Z (st.put d x) (a.put d v) w := ⟨h.r.put d hx, h.e, h.z0, h.z1⟩
theorem Good.put (h : RelC C M Z st a w) {K : St → Prop} (d : Option Tmp) {x : TV} {v : Value} (hx : TRel M w Z x v) (hk : st.putK d x K) : Good C K (a.put d v) w := ⟨M, Z, _, h.put d hx, (St.putK_eq _ _ _ _).1 hk⟩
theorem Kept.same (h : RelC C M Z st a w) (hs : Since (fun _ => False) w w') : Kept al M Z w w' := by
  unfold Kept
  split
  · trivial
  · exact ⟨hs.mono (fun _ h => h.elim), fun b hb => hs.block b (h.r.h.zlt b hb) id⟩
theorem Kept.refl (h : RelC C M Z st a w) : Kept al M Z w w := Kept.same h (Since.refl _ _)

theorem cmp_ok {op : BinOp} {x y : TV} {c : Cnd} {tv : TV} {p : Prop} (hb : binV op x y = some (c, tv)) (hp : cmpP op x y = some p) : ∃ e : Bool, tv = .c (.v (.bool e)) ∧ (e = true ↔ p) := by
  unfold cmpP at hp
  split at hp
  · rename_i k a
    split at hp
    · rename_i k' b
      unfold binV at hb
      simp only at hb
      split at hb
      · unfold intBinT at hb
        cases op <;> simp only [cmpI] at hp <;> cases hp <;> simp only [intBin] at hb <;> cases hb
        all_goals exact ⟨_, rfl, by simp⟩
      · cases hb
    · cases hp
  · rename_i a
    split at hp
    · rename_i b
      unfold binV at hb
      simp only at hb
      unfold strBinT at hb
      cases op <;> simp only [cmpS] at hp <;> cases hp <;> simp only [strBin] at hb <;> cases hb
      all_goals exact ⟨_, rfl, by simp⟩
    · cases hp
  · cases hp
theorem val2_bin {tt : TT} {st : St} {o : BinOp} {t u : TypeId} {x y : Operand} {c : Cnd} {tv : TV} {p : Prop} (hv : val2 tt st (.binOp o t x y u) = some (c, tv)) (hp : cmpP o (ev st x) (ev st y) = some p) : binV o (ev st x) (ev st y) = some (c, tv) := by
  have hn : boolV tt o t (ev st x) (ev st y) = none := by
    unfold cmpP at hp
    unfold boolV
    split at hp
    · rename_i e; rw [e]
    · rename_i e; rw [e]
    · cases hp
  simp only [val2, hn] at hv
  exact hv
theorem lenP_ok (h : RelC C M Z st a w) (x : Operand) {G : Prop} (hG : lenP st (ev st x) G) : G := by
  have hx := ev_ok h.r x
  unfold lenP at hG
  split at hG
  · rename_i sz n f e
    rw [e] at hx
    have hx : Imm w Z (.d sz n f) (a.eval x) := hx
    generalize a.eval x = U at hx
    cases hx with
    | d vals hc hm hnil hA hl hv => simp only [maxLen] at hm; exact hG (by omega)
  · split at hG
    · rename_i r n0 e t sz n f ho0
      have ho := lkV_ok ho0 trivial
      obtain ⟨v', hv', xs, hown, hlen, hcells⟩ := h.r.h.ok _ _ ho
      rcases hown.2 with ⟨rfl, hx⟩ | ⟨g, cap, cur, rfl, hg, hh, hnc, hcm, _⟩
      · exact hG (by omega)
      · simp only [maxLen] at hcm; exact hG (by omega)
    · exact hG
  · exact hG
theorem valK_ok (h : RelC C M Z st a w) {op : Op} {c : Cnd} {d : Option Tmp} {tv : TV} {v : Value} (hval : ∀ o t x y u p, op = .binOp o t x y u → cmpP o (ev st x) (ev st y) = some p → binV o (ev st x) (ev st y) = some (c, tv)) (hv : TRel M w Z tv v) {K : St → Prop} (hk : valK op st d tv K) : Good C K (a.put d v) w := by
  unfold valK at hk
  split at hk
  · rename_i o t x y u
    split at hk
    · rename_i p hp
      obtain ⟨e, rfl, he⟩ := cmp_ok (hval _ _ _ _ _ _ rfl hp) hp
      by_cases hpp : p
      · have : e = true := he.2 hpp
        subst this
        exact Good.put h d hv (hk.1 hpp)
      · have : e = false := by cases e with | false => rfl | true => exact absurd (he.1 rfl) hpp
        subst this
        exact Good.put h d hv (hk.2 hpp)
    · exact Good.put h d hv hk
  · split at hk
    · rename_i x _
      exact Good.put h d hv (lenP_ok h x hk)
    · exact Good.put h d hv hk
  · exact Good.put h d hv hk

theorem Imm.cut {sz n : Nat} {f : Nat → List CV} {A : Option Addr} {c : Nat} (h : Imm w Z (.d sz n f) (.slice A n c)) {l k : Nat} (h1 : l ≤ k) (h2 : k ≤ n) :
    Imm w Z (.d sz (k - l) (fun i => f (l + i))) (.slice (if c = l then A else A.map (·.add (l * sz))) (k - l) (c - l)) := by
  cases h with
  | @d _ _ _ _ _ vals hc hm hnil hA hl hv =>
  refine .d (fun i j => vals (l + i) j) (by omega) (by omega) (fun he => ?_) (fun hn => ?_) (fun i hi => hl _ (by omega)) (fun i j x hi hx => hv _ j x (by omega) hx)
  · by_cases hcl : c = l
    · omega
    · rw [if_neg hcl] at he
      cases A with
      | none => have := hnil rfl; omega
      | some => cases he
  · obtain ⟨ad, rfl, hb, hcell⟩ := hA (by omega)
    rw [if_neg (by omega)]
    refine ⟨ad.add (l * sz), rfl, by have : (ad.add (l * sz)).block = ad.block := by unfold Addr.add; split <;> rfl
                                     rw [this]; exact hb, fun i j hi hj => ?_⟩
    have := hcell (l + i) j (by omega) hj
    rw [Nat.add_mul, Nat.add_assoc] at this
    rw [← this]
    congr 1
    unfold Addr.add
    by_cases p : l * sz = 0 <;> by_cases q : i * sz + j = 0 <;> simp [p, q, Nat.add_assoc] <;> omega

theorem bnd_ok (h : RelC C M Z st a w) {x : Option Operand} {d k : Int} (hy : bnd st x d = some k) : (x = none ∧ k = d) ∨ ∃ l kd, x = some l ∧ a.eval l = .int kd k := by
  cases x with
  | none => cases hy; exact .inl ⟨rfl, rfl⟩
  | some l =>
    simp only [bnd] at hy
    have hl := ev_ok h.r l
    unfold TV.isInt at hy
    split at hy
    · rename_i kd n he; cases hy; rw [he] at hl; exact .inr ⟨l, kd, rfl, hl.1⟩
    · cases hy
theorem sliceV_ok (hT : TOk P tt) (h : RelC C M Z st a w) {t : TypeId} {x : Operand} {lo hi : Option Operand} {c : Cnd} {r : TV} (hs : sliceV tt st t x lo hi = some (c, r)) (hc : c.h) :
    ∃ v, TRel M w Z r v ∧ ∀ w', (Instr.sliceAt t (a.eval x) (lo.map a.eval) (hi.map a.eval) none).run P w' = .ok v w' := by
  have hx := ev_ok h.r x
  unfold sliceV at hs
  split at hs
  · rename_i sz n f hex
    rw [hex] at hx
    split at hs
    · rename_i e te hte
      obtain ⟨ti, hti, h0, rfl, hte⟩ := elemOf_ok hte
      have hu := (hT _ _ hti).elem h0
      obtain ⟨i, z, hi', hsi, _⟩ := (hT _ _ hte).info
      split at hs
      · rename_i hsz
        have hsz' : te.size = sz := Nat.eq_of_beq_eq_true hsz
        split at hs
        · rename_i l hl
          split at hs
          · rename_i k hk
            cases hs
            obtain ⟨c1, c2, c3⟩ := hc
            generalize hU : a.eval x = U at hx
            cases hx with
            | @d _ _ _ A cap vals hcap hm hnil hA hlen hv =>
            have himm := Imm.cut (Imm.d vals hcap hm hnil hA hlen hv) (l := l.toNat) (k := k.toNat) (by omega) (by omega)
            refine ⟨_, himm, fun w' => ?_⟩
            have hr1 : ∀ kd, (Instr.sliceBound (.int kd k) cap .sliceAcap).run P w' = .ok k.toNat w' := fun kd => by
              simp [Instr.sliceBound, asIntOf, show 0 ≤ k by omega, show k ≤ cap by omega]
            have hr2 : ∀ kd, (Instr.sliceBound (.int kd l) k.toNat .sliceB).run P w' = .ok l.toNat w' := fun kd => by
              simp only [Instr.sliceBound, asIntOf, Sem.run_bind, Sem.run_pure, Result.andThen_ok]
              rw [if_pos ⟨c1, by omega⟩]
              rfl
            have hbd : (Instr.sliceBounds true n cap (lo.map a.eval) (hi.map a.eval) none).run P w' = .ok (l.toNat, k.toNat, cap) w' := by
              rcases bnd_ok h hl with ⟨rfl, rfl⟩ | ⟨lx, kd, rfl, hlx⟩ <;> rcases bnd_ok h hk with ⟨rfl, rfl⟩ | ⟨kx, kd', rfl, hkx⟩
              · simp [Instr.sliceBounds]
              · simp [Instr.sliceBounds, hkx, hr1]
              · have := hr2 kd
                simp at this
                simp [Instr.sliceBounds, hlx, this]
              · simp [Instr.sliceBounds, hlx, hkx, hr1, hr2]
            simp only [Instr.sliceAt, Sem.run_bind, run_underlying hu, Result.andThen_ok, Instr.slice, hbd, sizeOf, typeInfo, run_program, hi', Sem.run_pure, hsi, hsz']
          · cases hs
        · cases hs
      · cases hs
    · cases hs
  · rename_i s hex
    rw [hex] at hx
    obtain ⟨hxe, _⟩ := hx
    split at hs
    · rename_i ti hti
      split at hs
      · rename_i hstr
        have hu := (hT _ _ hti).str hstr
        split at hs
        · rename_i l hl
          split at hs
          · rename_i k hk
            cases hs
            obtain ⟨c1, c2, c3⟩ := hc
            refine ⟨_, ⟨rfl, rfl⟩, fun w' => ?_⟩
            have hr1 : ∀ kd, (Instr.sliceBound (.int kd k) s.size .sliceAlen).run P w' = .ok k.toNat w' := fun kd => by
              simp [Instr.sliceBound, asIntOf, show 0 ≤ k by omega, show k ≤ s.size by omega]
            have hr2 : ∀ kd, (Instr.sliceBound (.int kd l) k.toNat .sliceB).run P w' = .ok l.toNat w' := fun kd => by
              simp only [Instr.sliceBound, asIntOf, Sem.run_bind, Sem.run_pure, Result.andThen_ok]
              rw [if_pos ⟨c1, by omega⟩]
              rfl
            have hbd : (Instr.sliceBounds false s.size s.size (lo.map a.eval) (hi.map a.eval) none).run P w' = .ok (l.toNat, k.toNat, s.size) w' := by
              rcases bnd_ok h hl with ⟨rfl, rfl⟩ | ⟨lx, kd, rfl, hlx⟩ <;> rcases bnd_ok h hk with ⟨rfl, rfl⟩ | ⟨kx, kd', rfl, hkx⟩
              · simp [Instr.sliceBounds]
              · simp [Instr.sliceBounds, hkx, hr1]
              · have := hr2 kd
                simp at this
                simp [Instr.sliceBounds, hlx, this]
              · simp [Instr.sliceBounds, hlx, hkx, hr1, hr2]
            simp [Instr.sliceAt, run_underlying hu, Instr.slice, hxe, hbd]
          · cases hs
        · cases hs
      · cases hs
    · cases hs
  · cases hs

theorem val2_ok (hT : TOk P tt) (h : RelC C M Z st a w) {o : Oper} {c : Cnd} {r : TV} (hv : val2 tt st o.op = some (c, r)) (hc : c.h) :
    ∃ v, TRel M w Z r v ∧ ∀ w', (isLoad o.op = true → Same Z w w' ∧ ∀ q, opRef st o.op = some q → SameAt M q w w') → (execOp a.eval o).run P w' = .ok (.value v) w' := by
  unfold val2 at hv
  split at hv
  · rename_i bo t x y u hop
    split at hv
    · rename_i r0 hbv
      cases hv
      unfold boolV at hbv
      split at hbv
      · rename_i a1 hx
        split at hbv
        · rename_i b1 hy
          split at hbv
          · rename_i ti hti
            split at hbv
            · rename_i hbl
              have hu := (hT _ _ hti).bool hbl
              have hx' : a.eval x = .bool a1 := by have := ev_ok h.r x; rw [hx] at this; exact this.1
              have hy' : a.eval y = .bool b1 := by have := ev_ok h.r y; rw [hy] at this; exact this.1
              split at hbv
              · cases hbv
                exact ⟨.bool (a1 == b1), ⟨rfl, rfl⟩, fun w' _ => by simp [execOp, hop, hx', hy', eqGuard, binOp, run_equal_bool w' t a1 b1 hu]⟩
              · cases hbv
                exact ⟨.bool (!(a1 == b1)), ⟨rfl, rfl⟩, fun w' _ => by simp [execOp, hop, hx', hy', eqGuard, binOp, run_equal_bool w' t a1 b1 hu]⟩
              · cases hbv
            · cases hbv
          · cases hbv
        · cases hbv
      · cases hbv
    · exact val_ok hT h.r (o := o) (by rw [hop]; exact hv) hc
  · rename_i t ps hop
    split at hv
    · rename_i ti hti
      split at hv
      · rename_i hg
        split at hv
        · rename_i cs hcs
          cases hv
          obtain ⟨v, h1, h2⟩ := buildC_ok h.r (hT _ _ hti) hg hcs
          exact ⟨v, h1, fun w' _ => run_mk (h2 w') (by simp [execOp, hop])⟩
        · cases hv
      · cases hv
    · cases hv
  · rename_i t x lo hi hop
    obtain ⟨v, h1, h2⟩ := sliceV_ok hT h hv hc
    exact ⟨v, h1, fun w' _ => run_mk (h2 w') (by simp [execOp, hop])⟩
  · exact val_ok hT h.r hv hc

theorem run_mk' {o : Oper} {w w' : World} {s : Sem Value} {v : Value} (h : s.run P w = .ok v w') (he : execOp a.eval o = (do pure (Next.value (← s)) : Sem Next)) : (execOp a.eval o).run P w = .ok (.value v) w' := by
  rw [he]
  show (s >>= fun x => pure (Next.value x) : Sem Next).run P w = _
  simp [h]
theorem wp_value {o : Oper} {v : Value} {w' : World} {K : Act → World → Prop} {Q : Exit → Act → World → Prop} (hrun : (execOp a.eval o).run P w = .ok (.value v) w') (hk : K (a.put o.dst v) w') : o.wp P a w K Q := by
  unfold Oper.wp; rw [hrun]; exact hk
theorem wp_skip_ {o : Oper} {w' : World} {K : Act → World → Prop} {Q : Exit → Act → World → Prop} (hrun : (execOp a.eval o).run P w = .ok .skip w') (hk : K (a.put o.dst undef) w') : o.wp P a w K Q := by
  unfold Oper.wp; rw [hrun]; exact hk
theorem bool_ok (h : RelC C M Z st a w) {x : Operand} {b : Bool} (hb : ev st x = .c (.v (.bool b))) : a.eval x = .bool b := by
  have hx := ev_ok h.r x
  rw [hb] at hx; exact hx.1
theorem int_ok (h : RelC C M Z st a w) {x : Operand} {k : IntKind} {n : Int} (hb : ev st x = .c (.v (.int k n))) : a.eval x = .int k n := by
  have hx := ev_ok h.r x
  rw [hb] at hx; exact hx.1
theorem isFn_ok (h : RelC C M Z st a w) {x : Operand} {g : Nat} (hb : isFn (ev st x) = some g) : a.eval x = .func (.func g) #[] #[] := by
  have hx := ev_ok h.r x
  unfold isFn at hb
  split at hb
  · rename_i g' f c he
    split at hb
    · rename_i hf
      split at hb
      · rename_i hc
        cases hb
        rw [he] at hx
        have h1 : f = #[] := by apply Array.ext'; exact hf
        have h2 : c = #[] := by apply Array.ext'; exact hc
        subst h1; subst h2
        exact hx.1
      · cases hb
    · cases hb
  · cases hb
theorem evs_ok (h : RelC C M Z st a w) : ∀ (xs : List Operand), All2 (TRel M w Z) (xs.map (ev st)) (xs.map a.eval)
  | [] => .nil
  | x :: xs => .cons (ev_ok h.r x) (evs_ok h xs)
theorem frzs_ok : ∀ (ks : List Frz) {st : St} {Z : Nat → Prop} {K : St → Prop}, RelC C M Z st a w → frzsK ks st K → ∃ Z' st', RelC C M Z' st' a w ∧ K st' ∧ ∀ b, Z b → Z' b
  | [], st, Z, K, h, hk => ⟨Z, st, h, hk, fun _ h => h⟩
  | .row k :: ks, st, Z, K, h, hk => by
    simp only [frzsK] at hk
    split at hk
    · rename_i t sz n f ho
      rw [nth_eq] at ho
      rw [St.frzK_eq] at hk
      obtain ⟨Z', h1, h2, h3⟩ := h.r.frz ho hk.1
      obtain ⟨Z2, st2, p1, p2, p3⟩ := frzs_ok ks ⟨h3, h.e, fun b hb => h1 b (h.z0 b hb), fun b hb => (h2 b hb).elim (h.z1 b) .inr⟩ hk.2
      exact ⟨Z2, st2, p1, p2, fun b hb => p3 b (h1 b hb)⟩
    · exact hk.elim
  | .weave k q pos :: ks, st, Z, K, h, hk => by
    simp only [frzsK] at hk
    split at hk
    · rename_i t' sz' m n' g ho
      split at hk
      · rename_i t sz n f hq
        rw [nth_eq] at ho hq
        rw [St.weaveK_eq] at hk
        obtain ⟨⟨c1, ⟨nn, c2⟩, c3⟩, hk⟩ := hk
        obtain ⟨Z', h1, h2, h3⟩ := h.r.weave ho hq c1 c2 c3
        obtain ⟨Z2, st2, p1, p2, p3⟩ := frzs_ok ks ⟨h3, h.e, fun b hb => h1 b (h.z0 b hb), fun b hb => (h2 b hb).elim (h.z1 b) .inr⟩ hk
        exact ⟨Z2, st2, p1, p2, fun b hb => p3 b (h1 b hb)⟩
      · exact hk.elim
    · exact hk.elim
  | .to k f' :: ks, st, Z, K, h, hk => by
    simp only [frzsK] at hk
    split at hk
    · rename_i t sz n f ho
      rw [nth_eq] at ho
      rw [St.frzToK_eq] at hk
      obtain ⟨Z', h1, h2, h3⟩ := h.r.frzTo ho hk.1 hk.2.1
      obtain ⟨Z2, st2, p1, p2, p3⟩ := frzs_ok ks ⟨h3, h.e, fun b hb => h1 b (h.z0 b hb), fun b hb => (h2 b hb).elim (h.z1 b) .inr⟩ hk.2.2
      exact ⟨Z2, st2, p1, p2, fun b hb => p3 b (h1 b hb)⟩
    · exact hk.elim

theorem lay_box (h : RelC C M Z st a w) (t : TypeId) (d : Option Tmp) {cs : List CV} {arr : Array Value} (ha : All2 (CRel M w Z) cs arr.toList) {K : St → Prop}
    (hk : st.pushK (.box t cs) fun st k => st.putK d (.c (.p ⟨k, 0⟩ 0)) K) : Good C K (a.put d (.pointer (some ⟨w.heap.size, 0, none⟩))) (w.alloc (.cells arr t)) := by
  rw [St.pushK_eq] at hk
  have hs : Since (fun b => blkOf (.pointer (some ⟨w.heap.size, 0, none⟩)) = some b) w (w.alloc (.cells arr t)) := (Since.alloc _ w _)
  have hle : M.le (M ++ [fun _ => .pointer (some ⟨w.heap.size, 0, none⟩)]) := Mp.le_append _ _
  have hb : ∀ b, blkOf (.pointer (some ⟨w.heap.size, 0, none⟩)) = some b → w.heap.size ≤ b := fun b e => by cases e; exact Nat.le_refl _
  have hZ : ∀ b, Z b → (w.alloc (.cells arr t)).heap[b]? = w.heap[b]? := fun b hz => Below.heap_alloc w _ b (h.r.h.zlt b hz)
  have hrel := h.r.lay (.box t cs) (.pointer (some ⟨w.heap.size, 0, none⟩)) (by intros; simp) hs (fun b e => lay_new h.r.h (hb b e)) ⟨w.heap.size, arr.toList, rfl, by simpa using heap_alloc_new w (.cells arr t), ha.imp fun x u _ hx => hx.mono hle hZ (fun _ h => h)⟩
  refine Good.put ⟨hrel, h.e.trans hle, h.z0, h.z1⟩ d ?_ hk
  exact ⟨w.heap.size, by unfold Mp.at; simp [← h.r.h.len], rfl⟩

theorem intsOf_ok {k : IntKind} : ∀ {l : List CV} {ns : List Int}, intsOf k l = some ns → l = ns.map fun n => .v (.int k n)
  | [], ns, h => by cases h; rfl
  | x :: l, ns, h => by
    unfold intsOf at h
    split at h
    · rename_i e; cases e
    · rename_i k' n l' e
      cases e
      split at h
      · rename_i hk
        have hk : k = k' := of_decide_eq_true hk
        subst hk
        split at h
        · rename_i ns' h'
          cases h
          rw [intsOf_ok h']; rfl
        · cases h
      · cases h
    · cases h
theorem rowFn_eq {len sz : Nat} {cs : List CV} (hl : cs.length = len * sz) {i : Nat} (hi : i < len) : rowFn len sz cs i = rowOf sz cs i := by
  unfold rowFn
  cases h : (Nat.beq len 1 && Nat.beq cs.length sz) with
  | true =>
    simp only
    rw [Bool.and_eq_true] at h
    have h1 := Nat.eq_of_beq_eq_true h.1
    have h2 := Nat.eq_of_beq_eq_true h.2
    subst h1
    obtain rfl : i = 0 := by omega
    unfold rowOf
    simp only [Nat.zero_mul, Nat.zero_add]
    refine List.ext_getElem? fun j => ?_
    rw [List.getElem?_map]
    by_cases hj : j < sz
    · rw [List.getElem?_range hj, List.getElem?_eq_getElem (by omega)]
      simp [List.getElem?_eq_getElem (show j < cs.length by omega)]
    · rw [List.getElem?_eq_none (by omega), List.getElem?_eq_none (by simp; omega)]; rfl
  | false =>
    simp only
    cases h1 : Nat.beq sz 1 with
    | true =>
      simp only
      have h1 := Nat.eq_of_beq_eq_true h1
      subst h1
      split
      · rename_i k n l
        cases h' : intsOf k l with
        | some ns =>
          simp only
          rw [intsOf_ok h']
          unfold rowOf
          simp only [List.range_one, List.map_cons, List.map_nil, Nat.mul_one, Nat.add_zero]
          have hlen : (n :: ns).length = len := by
            rw [intsOf_ok h'] at hl; simpa using hl
          have e : (CV.v (.int k n) :: ns.map fun n => CV.v (.int k n)) = (n :: ns).map fun n => CV.v (.int k n) := rfl
          rw [e, List.getD_eq_getElem?_getD, List.getD_eq_getElem?_getD, List.getElem?_map, List.getElem?_eq_getElem (by omega)]
          rfl
        | none => rfl
      · rfl
    | false => rfl

theorem lay_row' (h : RelC C M Z st a w) (e : TypeId) (sz len : Nat) (d : Option Tmp) {f : Nat → List CV} {arr : Array Value} (hl : arr.size = len * sz) (hm : len ≤ maxLen) (hf : ∀ i, i < len → (f i).length = sz)
    (hc : ∀ i j x, i < len → (f i)[j]? = some x → ∃ u, arr.toList[i * sz + j]? = some u ∧ CRel M w Z x u) {K : St → Prop}
    (hk : st.pushK (.row e sz len f) fun st k => st.putK d (.c (.s ⟨k, 0⟩ len)) K) : Good C K (a.put d (.slice (some ⟨w.heap.size, 0, none⟩) len len)) (w.alloc (.cells arr e)) := by
  rw [St.pushK_eq] at hk
  have hs : Since (fun b => blkOf (.slice (some ⟨w.heap.size, 0, none⟩) len len) = some b) w (w.alloc (.cells arr e)) := (Since.alloc _ w _)
  have hle : M.le (M ++ [fun _ => .slice (some ⟨w.heap.size, 0, none⟩) len len]) := Mp.le_append _ _
  have hb : ∀ b, blkOf (.slice (some ⟨w.heap.size, 0, none⟩) len len) = some b → w.heap.size ≤ b := fun b e => by cases e; exact Nat.le_refl _
  have hZ : ∀ b, Z b → (w.alloc (.cells arr e)).heap[b]? = w.heap[b]? := fun b hz => Below.heap_alloc w _ b (h.r.h.zlt b hz)
  have hrel := h.r.lay (.row e sz len f) (.slice (some ⟨w.heap.size, 0, none⟩) len len) (by intros; simp) hs (fun b e => lay_new h.r.h (hb b e)) ⟨arr.toList, World.ownsRow_lit w arr len (Nat.zero_le _) hm hl, hf, fun i j x hi hx => by
    obtain ⟨u, h1, h2⟩ := hc i j x hi hx
    exact ⟨u, h1, h2.mono hle hZ (fun _ h => h)⟩⟩
  refine Good.put ⟨hrel, h.e.trans hle, h.z0, h.z1⟩ d ?_ hk
  exact ⟨by unfold Mp.at; simp [← h.r.h.len], _, _, rfl⟩
theorem lay_row (h : RelC C M Z st a w) (e : TypeId) (sz len : Nat) (d : Option Tmp) {cs : List CV} {arr : Array Value} (ha : All2 (CRel M w Z) cs arr.toList) (hl : arr.size = len * sz) (hm : len ≤ maxLen) {K : St → Prop}
    (hk : st.pushK (.row e sz len (rowFn len sz cs)) fun st k => st.putK d (.c (.s ⟨k, 0⟩ len)) K) : Good C K (a.put d (.slice (some ⟨w.heap.size, 0, none⟩) len len)) (w.alloc (.cells arr e)) := by
  have hcl : cs.length = len * sz := by rw [ha.length]; simpa using hl
  refine lay_row' h e sz len d hl hm (fun i hi => by rw [rowFn_eq hcl hi]; simp [rowOf]) (fun i j x hi hx => ?_) hk
  rw [rowFn_eq hcl hi] at hx
  have hj : j < sz := by have := (List.getElem?_eq_some_iff.1 hx).1; simpa [rowOf] using this
  have hlt : i * sz + j < cs.length := by
    rw [hcl]
    have : (i + 1) * sz ≤ len * sz := Nat.mul_le_mul_right _ hi
    rw [Nat.add_mul, Nat.one_mul] at this
    omega
  have hx' : x = cs[i * sz + j] := by
    simp only [rowOf, List.getElem?_map, List.getElem?_range hj, Option.map_some, Option.some.injEq] at hx
    rw [← hx, List.getD_eq_getElem?_getD, List.getElem?_eq_getElem hlt]; rfl
  exact ha.get (i := i * sz + j) (a := x) (by rw [hx']; exact List.getElem?_eq_getElem hlt)

theorem RelC.frz (h : RelC C M Z st a w) {k : Nat} {t : TypeId} {sz n : Nat} {f : Nat → List CV} (ho : st.loc[k]? = some (.row t sz n f)) (him : ∀ i, i < n → (resL st.fz (f i)).all CV.immB = true) : ∃ Z', RelC C M Z' (st.frz k sz n f) a w := by
  obtain ⟨Z', h1, h2, h3⟩ := h.r.frz ho him
  exact ⟨Z', h3, h.e, fun b hb => h1 b (h.z0 b hb), fun b hb => (h2 b hb).elim (h.z1 b) .inr⟩

theorem callV_ok (h : RelC C M Z st a w) {g : Nat} {args : List Operand} {d : Option Tmp} {K : St → Prop} (hs : callV P al st g args d K) :
    (∀ as w, (callFunc g as).run P w = .ok (.enter g as) w) ∧ Calls P g (args.map a.eval).toArray w fun e w' => (∃ u, e = .returned u ∧ Good C K (a.put d u) w') ∧ Kept al M Z w w' := by
  obtain ⟨fs, hs⟩ := hs
  obtain ⟨Z', st', h', ⟨ρ, xs', objs, hn, hx, hl, hc⟩, hzz⟩ := frzs_ok fs h hs
  have hc2 : (∀ hand loc1, al = some (hand, loc1) → keysLe hand st'.loc loc1 (keysOf ρ)) ∧ CallOK P g xs' objs fun r objs' => placesK st'.loc ρ (objs'.map (AObj.up ρ st'.loc.length)) fun loc' => st'.afterK loc' d (r.up ρ st'.loc.length) K := by
    unfold limP at hc
    split at hc
    · exact ⟨(fun _ _ e => by cases e), hc⟩
    · exact ⟨(fun _ _ e => by cases e; exact hc.1), hc.2⟩
  obtain ⟨hal, hc⟩ := hc2
  refine ⟨hc.1, (call_ok h' (evs_ok h' args) hn hx hl (d := d) (K := K) (hc.mono fun r objs' hk => ?_)).mono ?_⟩
  · unfold placesK at hk
    split at hk
    · rename_i loc' hp
      rw [locNf_eq, St.afterK_eq] at hk
      exact ⟨loc', hp, hk⟩
    · exact hk.elim
  · rintro e w' ⟨h1, h2, h3⟩
    refine ⟨h1, ?_⟩
    unfold Kept
    split
    · trivial
    · rename_i hand loc1
      have hks := hal hand loc1 rfl
      have hkey : ∀ (l : List Nat), keysLe hand st'.loc loc1 l → ∀ k ∈ l, hasB k hand = true ∧ memLe (nth st'.loc k) (nth loc1 k) := by
        intro l
        induction l with
        | nil => intro _ k hk; cases hk
        | cons q l ih =>
          intro hl k hk
          rcases List.mem_cons.1 hk with rfl | hk
          · exact ⟨hl.1, hl.2.1⟩
          · exact ih hl.2.2 k hk
      refine ⟨h2.mono fun b ⟨r, v, p1, p2, p3⟩ => ?_, fun b hb => h3 b (hzz b hb)⟩
      rcases sel_live (M := M) (nodupB_ok hn) hl p1 with hnl | ⟨s, q1, hs0, q2, q3, _⟩
      · rw [hnl] at p2; cases Option.some.inj p2; cases p3
      obtain ⟨o, ho, hlo⟩ := q2
      obtain ⟨v', hv', _⟩ := h'.r.h.ok _ _ ho
      rw [q3, hv'] at p2
      cases p2
      obtain ⟨k1, k2⟩ := hkey _ hks _ (List.mem_flatMap.2 ⟨s, List.mem_of_getElem? q1, fn_key s hs0 r.i⟩)
      refine ⟨s.fn r.i, v', ?_, hv', p3, k1⟩
      generalize s.fn r.i = q at ho k2
      unfold lk at ho
      rw [nth_eq, nth_eq] at k2
      cases hO : st'.loc[q.k]? with
      | none => rw [hO] at ho; cases ho
      | some O =>
        rw [hO] at ho k2
        simp only [Option.bind_some] at ho
        cases O with
        | dead => simp only [AObj.mem] at ho; split at ho <;> cases ho; cases hlo
        | rows t sz m n f =>
          simp only [memLe] at k2
          simp only [AObj.mem] at ho
          split at ho
          · rename_i hi
            split at k2
            · rename_i e1; exact ⟨_, by unfold lk; rw [e1]; simp only [Option.bind_some, AObj.mem]; rw [if_pos (Nat.lt_of_lt_of_le hi k2)], rfl⟩
            · exact k2.elim
          · cases ho
        | box t cs =>
          simp only [memLe] at k2
          simp only [AObj.mem] at ho
          split at ho
          · rename_i hi
            split at k2
            · rename_i e1; exact ⟨_, by unfold lk; rw [e1]; simp only [Option.bind_some, AObj.mem]; rw [if_pos hi], rfl⟩
            · rename_i e1; exact ⟨_, by unfold lk; rw [e1]; simp only [Option.bind_some, AObj.mem]; rw [if_pos hi], rfl⟩
            · exact k2.elim
          · cases ho
        | row t sz n f =>
          simp only [memLe] at k2
          simp only [AObj.mem] at ho
          split at ho
          · rename_i hi
            split at k2
            · rename_i e1; exact ⟨_, by unfold lk; rw [e1]; simp only [Option.bind_some, AObj.mem]; rw [if_pos hi], rfl⟩
            · rename_i e1; exact ⟨_, by unfold lk; rw [e1]; simp only [Option.bind_some, AObj.mem]; rw [if_pos hi], rfl⟩
            · exact k2.elim
          · cases ho

theorem ints_ok {l : List CV} {xs : List Int} {v : Value} (hv : TRel M w Z (.a l) v) (hx : intsOf .i64 l = some xs) : v = .agg (xs.map (Value.int .i64)).toArray := by
  obtain ⟨vs, rfl, hall⟩ := hv
  congr 1
  have key : ∀ {l : List CV} {vs : List Value} {xs : List Int}, All2 (CRel M w Z) l vs → intsOf .i64 l = some xs → vs = xs.map (Value.int .i64) := by
    intro l vs xs hall
    induction hall generalizing xs with
    | nil => intro h; cases h; rfl
    | @cons a b l vs h1 _ ih =>
      intro h
      cases a with
      | v u =>
        cases u with
        | int k n =>
          simp only [intsOf] at h
          split at h
          · rename_i hk
            have hk := of_decide_eq_true hk
            split at h
            · rename_i ns hns
              cases h
              obtain ⟨e, _⟩ := h1
              subst hk
              rw [e, List.map_cons, ih hns]
            · cases h
          · cases h
        | _ => cases h
      | _ => cases h
  rw [key hall hx]
theorem eff_ok (hT : TOk P tt) (h : RelC C M Z st a w) {o : Oper} {K : St → Prop} {Q : Exit → Act → World → Prop} (hs : eff P tt al st o K) : o.wp P a w (fun a' w' => Good C K a' w' ∧ Kept al M Z w w') Q := by
  have alloc_kept : ∀ ob, Kept al M Z w (w.alloc ob) := fun ob => Kept.same h (Since.alloc _ w ob)
  unfold eff at hs
  split at hs
  · rename_i c x y hop
    split at hs
    · rename_i b hb
      have hbe := bool_ok h hb
      refine wp_value (v := if b then a.eval x else a.eval y) (w' := w) ?_ ⟨?_, Kept.refl h⟩
      · simp [execOp, hop, hbe, asBool]
      · cases b with
        | true => exact Good.put h o.dst (ev_ok h.r x) hs
        | false => exact Good.put h o.dst (ev_ok h.r y) hs
    · exact hs.elim
  · rename_i t hop
    split at hs
    · rename_i ti hti
      obtain ⟨i, z, hi, _, _, hz, hzc, _⟩ := (hT _ _ hti).info
      refine wp_value (v := .pointer (some ⟨w.heap.size, 0, none⟩)) (w' := w.alloc (.cells z.cells t)) ?_ ⟨lay_box h t o.dst (arr := z.cells) (by rw [hzc]; exact zero_all2 _ (hT _ _ hti).zone) hs, alloc_kept _⟩
      simp [execOp, hop, Instr.alloc, zeroValue, typeInfo, hi, hz, newVar, newRow]
    · exact hs.elim
  · rename_i t x hop
    split at hs
    · rename_i cs hcs
      refine wp_value (v := .pointer (some ⟨w.heap.size, 0, none⟩)) (w' := w.alloc (.cells (a.eval x).cells t)) ?_ ⟨lay_box h t o.dst (cellsTV_ok (ev_ok h.r x) hcs) hs, alloc_kept _⟩
      simp [execOp, hop, Instr.box, newVar, newRow]
    · exact hs.elim
  · rename_i t len ps hop
    split at hs
    · rename_i e te hte
      obtain ⟨ti, hti, he, rfl, hte'⟩ := elemOf_ok hte
      split at hs
      · rename_i cs hcs
        split at hs
        · rename_i hlen
          have hlen : len * te.size ≤ 16777216 := Nat.le_of_ble_eq_true hlen
          obtain ⟨arr, h1, h2, h3⟩ := buildSliceC_ok h.r ((hT _ _ hti).elem he) (hT _ _ hte') hcs hlen
          have hpos := (hT _ _ hte').pos
          have hlm : len ≤ maxLen := by
            have : len * 1 ≤ len * te.size := Nat.mul_le_mul_left _ hpos
            simp [maxLen]; omega
          refine wp_value (v := .slice (some ⟨w.heap.size, 0, none⟩) len len) (w' := w.alloc (.cells arr ti.elem)) ?_ ⟨lay_row h ti.elem te.size len o.dst h2 h1 hlm hs, alloc_kept _⟩
          exact run_mk' (h3 w) (by simp [execOp, hop])
        · exact hs.elim
      · exact hs.elim
    · exact hs.elim
  · rename_i t l c hop
    split at hs
    · rename_i e te hte
      obtain ⟨ti, hti, he, rfl, hte'⟩ := elemOf_ok hte
      split at hs
      · rename_i kl n hl
        split at hs
        · rename_i kc m hc
          split at hs
          rotate_left 1
          · exact hs.elim
          rename_i hdec
          obtain ⟨rfl, h0, h1, h2, h3⟩ := of_decide_eq_true hdec
          obtain ⟨i, z, hi, hsi, hby, hz, hzc, _⟩ := (hT _ _ hte').info
          have hzs : z.cells.size = te.size := by rw [← Array.length_toList, hzc]; exact (hT _ _ hte').zlen
          have hrun := run_makeSlice (P := P) w t ti.elem i z ((hT _ _ hti).elem he) hi hz kl kc m m h0 (Int.le_refl _) (by rw [hsi]; omega) (by rw [hby]; exact h2) (by omega)
          have hn : m.toNat ≤ maxLen := by simp [maxLen]; omega
          rw [hsi] at hrun
          refine wp_value ?_ ⟨lay_row' h ti.elem te.size m.toNat o.dst (arr := madeCells z.cells (m.toNat * te.size)) (by simp [madeCells]) hn (fun i hi => by rw [List.length_map]; exact (hT _ _ hte').zlen) (fun i j x hi hx => ?_) hs, alloc_kept _⟩
          · exact run_mk' (s := Instr.makeSlice t (a.eval l) (a.eval c)) (by rw [int_ok h hl, int_ok h hc]; exact hrun) (by simp [execOp, hop])
          · rw [List.getElem?_map] at hx
            obtain ⟨u, p1, rfl⟩ := Option.map_eq_some_iff.1 hx
            have hj : j < te.size := by have := (List.getElem?_eq_some_iff.1 p1).1; rw [(hT _ _ hte').zlen] at this; exact this
            have hlt : i * te.size + j < m.toNat * te.size := by
              have : (i + 1) * te.size ≤ m.toNat * te.size := Nat.mul_le_mul_right _ hi
              rw [Nat.add_mul, Nat.one_mul] at this
              omega
            refine ⟨u, ?_, rfl, (hT _ _ hte').zone u (List.mem_of_getElem? p1)⟩
            have hmod : (i * te.size + j) % te.size = j := by rw [Nat.mul_comm, Nat.mul_add_mod, Nat.mod_eq_of_lt hj]
            have hzj : z.cells[j]! = u := by
              rw [← hzc] at p1
              have hj' : j < z.cells.size := by rw [hzs]; exact hj
              rw [getElem!_pos z.cells j hj']
              simpa [hj'] using p1
            simp [madeCells, hlt, hzs, hmod, hzj]
        · exact hs.elim
      · exact hs.elim
    · exact hs.elim
  · rename_i t x y hop
    split at hs
    · split at hs
      · rename_i ti hti
        split at hs
        · rename_i cs hcs
          split at hs
          · rename_i hl
            have hl : cs.length = ti.size := Nat.eq_of_beq_eq_true hl
            obtain ⟨st', w', h1, h2, h3⟩ := storeV_ok h.r (hT _ _ hti) (ev_ok h.r x) (cellsTV_ok (ev_ok h.r y) hcs) hl hs
            refine wp_skip_ (w' := w') ?_ ⟨Good.put (M := M) (Z := Z) ⟨h2, h.e, h.z0, h.z1⟩ o.dst (x := .bad) trivial h1, trivial⟩
            simp [execOp, hop, h3]
          · exact hs.elim
        · exact hs.elim
      · exact hs.elim
    · exact hs.elim
  · rename_i t x lo hi hop
    split at hs
    · rename_i r n0 hex
      split at hs
      · split at hs
        · rename_i rt sz n f ho
          rw [nth_eq] at ho
          rw [St.frzK_eq] at hs
          obtain ⟨him, hs⟩ := hs
          obtain ⟨Z', h'⟩ := h.frz ho him
          split at hs
          · rename_i c tv hv
            rw [Cnd.and_iff] at hs
            obtain ⟨v, h1, h2⟩ := val2_ok hT h' hv hs.1
            exact wp_value (h2 w (fun _ => ⟨fun _ _ => rfl, fun _ _ _ _ _ _ => rfl⟩)) ⟨Good.put h' o.dst h1 hs.2, Kept.refl h⟩
          · exact hs.elim
        · exact hs.elim
      · exact hs.elim
    · exact hs.elim
  · rename_i op t x y ty hop
    split at hs
    · rename_i a1 hx
      split at hs
      · rename_i b1 hy
        split at hs
        · rename_i ti hti
          split at hs
          · rename_i hbl
            have hu := (hT _ _ hti).bool hbl
            have hx' := bool_ok h hx
            have hy' := bool_ok h hy
            split at hs
            · refine wp_value (v := .bool (a1 == b1)) (w' := w) ?_ ⟨?_, Kept.refl h⟩
              · simp [execOp, hop, hx', hy', eqGuard, binOp, run_equal_bool w t a1 b1 hu]
              · by_cases e : a1 = b1
                · exact Good.put h o.dst (x := .c (.v (.bool true))) ⟨by simp [e], rfl⟩ (hs.1 e)
                · exact Good.put h o.dst (x := .c (.v (.bool false))) ⟨by simp [e], rfl⟩ (hs.2 e)
            · refine wp_value (v := .bool (!(a1 == b1))) (w' := w) ?_ ⟨?_, Kept.refl h⟩
              · simp [execOp, hop, hx', hy', eqGuard, binOp, run_equal_bool w t a1 b1 hu]
              · by_cases e : a1 = b1
                · exact Good.put h o.dst (x := .c (.v (.bool false))) ⟨by simp [e], rfl⟩ (hs.2 e)
                · exact Good.put h o.dst (x := .c (.v (.bool true))) ⟨by simp [e], rfl⟩ (hs.1 e)
            · exact hs.elim
          · exact hs.elim
        · exact hs.elim
      · exact hs.elim
    · rename_i l hx
      split at hs
      · rename_i m hy
        split at hs
        · rename_i ti hti
          split at hs
          · rename_i hcm
            split at hs
            · rename_i xs hxs
              split at hs
              · rename_i ys hys
                split at hs
                · rename_i hlen
                  simp only [Bool.and_eq_true, Nat.beq_eq] at hlen
                  have hx' := ints_ok (by have := ev_ok h.r x; rw [hx] at this; exact this) hxs
                  have hy' := ints_ok (by have := ev_ok h.r y; rw [hy] at this; exact this) hys
                  obtain ⟨h1, h2, h3⟩ := (hT _ _ hti).cmp hcm xs ys w op x y hlen.1 hlen.2
                  split at hs
                  · refine wp_value (v := .bool (decide (xs = ys))) (w' := w) ?_ ⟨?_, Kept.refl h⟩
                    · simp [execOp, hop, hx', hy', h1, h2]
                    · by_cases e : xs = ys
                      · exact Good.put h o.dst (x := .c (.v (.bool true))) ⟨by simp [e], rfl⟩ (hs.1 (eqLp_iff.2 e))
                      · exact Good.put h o.dst (x := .c (.v (.bool false))) ⟨by simp [e], rfl⟩ (hs.2 (fun q => e (eqLp_iff.1 q)))
                  · refine wp_value (v := .bool (!decide (xs = ys))) (w' := w) ?_ ⟨?_, Kept.refl h⟩
                    · simp [execOp, hop, hx', hy', h1, h3]
                    · by_cases e : xs = ys
                      · exact Good.put h o.dst (x := .c (.v (.bool false))) ⟨by simp [e], rfl⟩ (hs.2 (eqLp_iff.2 e))
                      · exact Good.put h o.dst (x := .c (.v (.bool true))) ⟨by simp [e], rfl⟩ (hs.1 (fun q => e (eqLp_iff.1 q)))
                  · exact hs.elim
                · exact hs.elim
              · exact hs.elim
            · exact hs.elim
          · exact hs.elim
        · exact hs.elim
      · exact hs.elim
    · rename_i sz n f hx
      split at hs
      · rename_i hy
        split at hs
        · rename_i et hte
          obtain ⟨ti, hti, he, _, hte'⟩ := elemOf_ok hte
          have hu := (hT _ _ hti).elem he
          have hyv : a.eval y = .slice none 0 0 := by have := ev_ok h.r y; rw [hy] at this; exact this.1
          have hxr : Imm w Z (.d sz n f) (a.eval x) := by have := ev_ok h.r x; rw [hx] at this; exact this
          obtain ⟨A, c, hxv, hA0⟩ : ∃ A c, a.eval x = .slice A n c ∧ (A = none → n = 0) := by
            generalize a.eval x = U at hxr
            cases hxr with
            | d vals hc hm hnil hA hl hv => exact ⟨_, _, rfl, fun e => by have := hnil e; omega⟩
          split at hs
          · refine wp_value (v := .bool A.isNone) (w' := w) ?_ ⟨?_, Kept.refl h⟩
            · simp [execOp, hop, hxv, hyv, eqGuard, binOp, run_equal_slice_nil w _ _ A n c hu]
            · cases A with
              | none => exact Good.put h o.dst (x := .c (.v (.bool true))) ⟨rfl, rfl⟩ (hs.1 (hA0 rfl))
              | some A => exact Good.put h o.dst (x := .c (.v (.bool false))) ⟨rfl, rfl⟩ hs.2
          · refine wp_value (v := .bool (!A.isNone)) (w' := w) ?_ ⟨?_, Kept.refl h⟩
            · simp [execOp, hop, hxv, hyv, eqGuard, binOp, run_equal_slice_nil w _ _ A n c hu]
            · cases A with
              | none => exact Good.put h o.dst (x := .c (.v (.bool false))) ⟨rfl, rfl⟩ (hs.1 (hA0 rfl))
              | some A => exact Good.put h o.dst (x := .c (.v (.bool true))) ⟨rfl, rfl⟩ hs.2
          · exact hs.elim
        · exact hs.elim
      · exact hs.elim
    · rename_i hx
      split at hs
      · rename_i hy
        split at hs
        · rename_i et hte
          obtain ⟨ti, hti, he, _, hte'⟩ := elemOf_ok hte
          have hu := (hT _ _ hti).elem he
          have hyv : a.eval y = .slice none 0 0 := by have := ev_ok h.r y; rw [hy] at this; exact this.1
          have hxv : a.eval x = .slice none 0 0 := by have := ev_ok h.r x; rw [hx] at this; exact this.1
          split at hs
          · refine wp_value (v := .bool true) (w' := w) ?_ ⟨Good.put h o.dst (x := .c (.v (.bool true))) ⟨rfl, rfl⟩ hs, Kept.refl h⟩
            simp [execOp, hop, hxv, hyv, eqGuard, binOp, run_equal_slice_nil w _ _ none 0 0 hu]
          · refine wp_value (v := .bool false) (w' := w) ?_ ⟨Good.put h o.dst (x := .c (.v (.bool false))) ⟨rfl, rfl⟩ hs, Kept.refl h⟩
            simp [execOp, hop, hxv, hyv, eqGuard, binOp, run_equal_slice_nil w _ _ none 0 0 hu]
          · exact hs.elim
        · exact hs.elim
      · exact hs.elim
    · exact hs.elim
  · rename_i cl hop
    split at hs
    · rename_i hcal
      split at hs
      · split at hs
        · rename_i x y hargs
          split at hs
          · rename_i t t' htys
            split at hs
            · rename_i htt
              have htt : t = t' := Nat.eq_of_beq_eq_true htt
              subst htt
              split at hs
              · rename_i e te hte
                obtain ⟨ti', hti, he, rfl, hte'⟩ := elemOf_ok hte
                obtain ⟨q, w', M', st', h1, h2, h3, h4⟩ := appendV_ok h.r ((hT _ _ hti).elem he) (hT _ _ hte') (ty := o.type) (ev_ok h.r x) (ev_ok h.r y) hs
                refine wp_value (v := q) (w' := w') ?_ ⟨⟨M', Z, st', ⟨h4, h.e.trans h3, h.z0, h.z1⟩, h2⟩, trivial⟩
                have ha : cl.args = #[x, y] := by rw [← Array.toArray_toList (xs := cl.args), hargs]
                have ht : cl.argTypes = #[t, t] := by rw [← Array.toArray_toList (xs := cl.argTypes), htys]
                simp [execOp, hop, resolve, hcal, ha, ht, invoke, builtin, h1]
              · exact hs.elim
            · exact hs.elim
          · exact hs.elim
        · exact hs.elim
      · exact hs.elim
    · rename_i f hcal
      split at hs
      · rename_i g hg
        have hfe := isFn_ok h hg
        obtain ⟨hcf, hcall⟩ := callV_ok h hs
        unfold Oper.wp
        have hrun : (execOp a.eval o).run P w = .ok (.enter g (cl.args.toList.map a.eval).toArray) w := by
          have e : cl.args.map a.eval = (cl.args.toList.map a.eval).toArray := by apply Array.ext'; simp
          simp [execOp, hop, resolve, hcal, hfe, Deferred.ofValue, invoke, hcf, e]
        rw [hrun]
        refine hcall.mono ?_
        rintro e w' ⟨⟨u, rfl, hg⟩, hk⟩
        exact ⟨hg, hk⟩
      · exact hs.elim
    · exact hs.elim
  · exact hs.elim

theorem undef_rel : TRel M w Z (.t []) undef := ⟨[], rfl, .nil⟩
theorem yield_undef (h : RelC C M Z st a w) {ops : Array Oper} {j : Nat} {oj : Oper} {t : Tmp} (hj : ops.toList[j]? = some oj) (hd : oj.dst = some t) (hb : ev st (.tmp t) = .t []) : yielded ops a.tmps j = none := by
  have hx := ev_ok h.r (.tmp t)
  rw [hb] at hx
  obtain ⟨vs, he, hv⟩ := hx
  cases hv
  have hd' : (ops[j]?).bind (·.dst) = some t := by rw [← Array.getElem?_toList, hj]; exact hd
  unfold yielded
  rw [hd']
  have he' : a.tmps.getD t undef = .tuple #[] := he
  rw [Array.getD_eq_getD_getElem?] at he'
  cases hq : a.tmps[t]? with
  | none => simp [hq]
  | some q => rw [hq] at he'; simp only [Option.getD_some] at he'; subst he'; simp [hq]
theorem step_ok (hT : TOk P tt) (h : RelC C M Z st a w) {ops : Array Oper} {o : Oper} {K : St → Prop} {Q : Exit → Act → World → Prop} (hs : step P tt al ops.toList st o K) :
    if Region.wanted o (yielded ops a.tmps) = true then o.wp P a w (fun a' w' => Good C K a' w' ∧ Kept al M Z w w') Q else Good C K (a.put o.dst undef) w := by
  have body : ∀ {st'}, RelC C M Z st' a w → stepB P tt al st' o K → o.wp P a w (fun a' w' => Good C K a' w' ∧ Kept al M Z w w') Q := fun {st'} h' hb => by
    unfold stepB at hb
    split at hb
    · rename_i c tv hv
      rw [Cnd.and_iff] at hb
      obtain ⟨v, h1, h2⟩ := val2_ok hT h' hv hb.1
      exact wp_value (h2 w (fun _ => ⟨fun _ _ => rfl, fun _ _ _ _ _ _ => rfl⟩)) ⟨valK_ok h' (fun o2 t x y u p e hp => by rw [e] at hv; exact val2_bin hv hp) h1 hb.2, Kept.refl h'⟩
    · exact eff_ok hT h' hb
  unfold step guardV at hs
  split at hs
  · rename_i hg
    rw [if_pos (by simp [Region.wanted, hg])]
    exact body h hs
  · rename_i j want hg
    split at hs
    · rename_i oj hj
      rw [nth_eq] at hj
      split at hs
      · rename_i t hd
        split at hs
        · rename_i b hb
          have hbe : a.eval (.tmp t) = .bool b := bool_ok h (x := .tmp t) hb
          have hget : a.tmps[t]? = some (.bool b) := by
            have hbe' : a.tmps.getD t undef = .bool b := hbe
            rw [Array.getD_eq_getD_getElem?] at hbe'
            cases hq : a.tmps[t]? with
            | none => rw [hq] at hbe'; cases hbe'
            | some q => rw [hq] at hbe'; simpa using hbe'
          have hy : yielded ops a.tmps j = some b := by
            have hd' : (ops[j]?).bind (·.dst) = some t := by rw [← Array.getElem?_toList, hj]; exact hd
            unfold yielded
            rw [hd']
            simp [hget]
          have skip_ : Region.wanted o (yielded ops a.tmps) = false → st.putK o.dst (.t []) K → if Region.wanted o (yielded ops a.tmps) = true then o.wp P a w (fun a' w' => Good C K a' w' ∧ Kept al M Z w w') Q else Good C K (a.put o.dst undef) w := fun e hk => by
            rw [if_neg (by rw [e]; simp)]
            exact Good.put h o.dst (x := .t []) undef_rel hk
          cases b <;> cases want <;> simp only at hs
          · rw [if_pos (by simp [Region.wanted, hg, hy])]; exact body h hs
          · exact skip_ (by simp [Region.wanted, hg, hy]) hs
          · exact skip_ (by simp [Region.wanted, hg, hy]) hs
          · rw [if_pos (by simp [Region.wanted, hg, hy])]; exact body h hs
        · rename_i l hl
          split at hs
          · have hy := yield_undef h hj hd hl
            rw [if_neg (by simp [Region.wanted, hg, hy])]
            exact Good.put h o.dst (x := .t []) undef_rel hs
          · exact hs.elim
        · exact hs.elim
      · exact hs.elim
    · exact hs.elim

theorem awpOps_ok (hT : TOk P tt) {ops : Array Oper} {Q : Exit → Act → World → Prop} {K : St → Prop} (hQ : ∀ a w, Good C K a w → Q .normal a w) :
    ∀ (l : List Oper) (k : Nat), (∀ (j : Nat), l[j]? = ops[k + j]?) → ∀ {M Z st a w}, RelC C M Z st a w → awpOps P tt ops.toList l st K → wpOps P ops Q (List.range' k l.length) a w
  | [], k, _, M, Z, st, a, w, h, hk => hQ _ _ ⟨M, Z, st, h, hk⟩
  | o :: l, k, hl, M, Z, st, a, w, h, hk => by
    have ho : ops[k]? = some o := by have := hl 0; simpa using this.symm
    rw [List.length_cons, List.range'_succ, wpOps_cons]
    unfold wpOp
    simp only [ho]
    have hstep := step_ok (Q := Q) hT h (ops := ops) (o := o) hk
    have next : ∀ a' w', Good C (fun st' => awpOps P tt ops.toList l st' K) a' w' → wpOps P ops Q (List.range' (k + 1) l.length) a' w' := fun a' w' ⟨M', Z', st', h', hk'⟩ =>
      awpOps_ok hT hQ l (k + 1) (fun j => by have := hl (j + 1); rw [List.getElem?_cons_succ] at this; rw [this]; congr 1; omega) h' hk'
    by_cases hw : Region.wanted o (yielded ops a.tmps) = true
    · rw [if_pos hw] at hstep ⊢
      exact .inl (Oper.wp_mono (fun a' w' hg => next a' w' hg.1) hstep)
    · rw [if_neg hw] at hstep ⊢
      exact next _ _ hstep

/-- A call: rows fs are frozen, the objects ρ handed out. -/
theorem call_ {st : St} {g : Nat} {args : List Operand} {d : Option Tmp} {K : St → Prop} (fs : List Frz) (h : frzsK fs st fun st => CallAt P al st g args d K) : callV P al st g args d K := ⟨fs, h⟩
theorem call0_ {st : St} {g : Nat} {args : List Operand} {d : Option Tmp} {K : St → Prop} (h : CallAt P al st g args d K) : callV P al st g args d K := ⟨[], h⟩
theorem callAt_ {st : St} {g : Nat} {args : List Operand} {d : Option Tmp} {K : St → Prop} (ρ : List Sel) (xs' : List TV) (objs : List AObj) (h1 : nodupB (keysOf ρ) = true) (h2 : tvsLe ρ st.loc.length (args.map (ev st)) xs') (h3 : locLe ρ st.loc.length st.loc st.fz ρ objs)
    (h : limP al st.loc ρ (CallOK P g xs' objs fun r objs' => placesK st.loc ρ (objs'.map (AObj.up ρ st.loc.length)) fun loc' => st.afterK loc' d (r.up ρ st.loc.length) K)) : CallAt P al st g args d K := ⟨ρ, xs', objs, h1, h2, h3, h⟩
theorem limP_mono {al : Lim} {loc : List AObj} {ρ : List Sel} {X Y : Prop} (h : limP al loc ρ X) (hxy : X → Y) : limP al loc ρ Y := by
  unfold limP at *
  split at h
  · exact hxy h
  · exact ⟨h.1, hxy h.2⟩
/-- A call by the callee's contract; rows fs are frozen first. -/
theorem callF {al : Lim} {st : St} {g : Nat} {args : List Operand} {d : Option Tmp} {K : St → Prop} (fs : List Frz) (h : frzsK fs st fun st => CallAt P al st g args d K) : callV P al st g args d K := ⟨fs, h⟩
theorem callB {al : Lim} {st : St} {g : Nat} {args : List Operand} {d : Option Tmp} {K : St → Prop} {xs' : List TV} {objs : List AObj} {Kc : TV → List AObj → Prop} (ρ : List Sel) (hc : CallOK P g xs' objs Kc) (h1 : nodupB (keysOf ρ) = true) (h2 : tvsLe ρ st.loc.length (args.map (ev st)) xs') (h3 : locLe ρ st.loc.length st.loc st.fz ρ objs)
    (hl : limP al st.loc ρ True) (h : ∀ r os, Kc r os → placesK st.loc ρ (os.map (AObj.up ρ st.loc.length)) fun loc' => st.afterK loc' d (r.up ρ st.loc.length) K) : CallAt P al st g args d K :=
  ⟨ρ, xs', objs, h1, h2, h3, limP_mono hl fun _ => hc.mono h⟩
theorem callC {al : Lim} {st : St} {g : Nat} {args : List Operand} {d : Option Tmp} {K : St → Prop} {xs' : List TV} {objs : List AObj} {Kc : TV → List AObj → Prop} (ρ : List Sel) (hc : CallOK P g xs' objs Kc) (h1 : nodupB (keysOf ρ) = true) (h2 : tvsLe ρ st.loc.length (args.map (ev st)) xs') (h3 : locLe ρ st.loc.length st.loc st.fz ρ objs)
    (hl : limP al st.loc ρ True) (h : ∀ r os, Kc r os → placesK st.loc ρ (os.map (AObj.up ρ st.loc.length)) fun loc' => st.afterK loc' d (r.up ρ st.loc.length) K) : callV P al st g args d K :=
  ⟨[], callB ρ hc h1 h2 h3 hl h⟩
end
attribute [irreducible] callV CallAt
end Go.Proofs.AY
/- AY, part L: a region that draws its order. -/
namespace Go.Proofs.AY
open Go Go.RowKit

/-! ## 1. The orders -/
/-- Operation d waits for operation i, by a chain of at most 'fuel' edges. -/
def reachB (md : Region.Mode) (ops : Array Oper) (i : Nat) : Nat → Nat → Bool
  | 0, _ => false
  | fuel + 1, d => match ops[d]? with
    | some o => o.after.any fun e => Region.binds md e && (e.on == i || reachB md ops i fuel e.on)
    | none => false
/-- What is listed is closed under the edges. -/
def closedB (md : Region.Mode) (ops : Array Oper) (listed : Array Bool) : Bool :=
  (List.range ops.size).all fun j => !listed.getD j false || match ops[j]? with
    | some o => o.after.all fun e => !Region.binds md e || listed.getD e.on false
    | none => true
/-- Each of ds that has not come up yet waits for number i. -/
def lastB (md : Region.Mode) (ops : Array Oper) (listed : Array Bool) (ds : List Nat) (i : Nat) : Bool :=
  ds.all fun d => listed.getD d true || reachB md ops i ops.size d

section
variable {P : Program} {ops : Array Oper} {Q : Exit → Act → World → Prop} {md : Region.Mode} {S : World → Prop} {ds : List Nat}

def ListedClosed (md : Region.Mode) (ops : Array Oper) (listed : Array Bool) : Prop :=
  ∀ (j : Nat) oj, ops[j]? = some oj → listed.getD j false = true → ∀ e ∈ oj.after, Region.binds md e = true → listed.getD e.on false = true
theorem closedB_spec {listed : Array Bool} (h : closedB md ops listed = true) : ListedClosed md ops listed := by
  intro j oj hj hl e he hb
  have hlt : j < ops.size := (Array.getElem?_eq_some_iff.1 hj).1
  have h1 := List.all_eq_true.1 h j (List.mem_range.2 hlt)
  simp only [hl, hj, Bool.not_true, Bool.false_or] at h1
  have h2 := Array.all_eq_true_iff_forall_mem.1 h1 e he
  simpa [hb] using h2
theorem ListedClosed.set {listed : Array Bool} {i : Nat} (h : ListedClosed md ops listed) (hi : i ∈ Region.ready md ops listed) : ListedClosed md ops (listed.setIfInBounds i true) := by
  obtain ⟨_, oi, hoi, hall⟩ := mem_ready.1 hi
  intro j oj hj hl e he hb
  by_cases hij : i = j
  · subst hij
    have : oj = oi := Option.some.inj (hj.symm.trans hoi)
    subst this
    exact getD_set_true (hall e he hb)
  · rw [getD_set_ne false hij] at hl
    exact getD_set_true (h j oj hj hl e he hb)
theorem reach_listed {listed : Array Bool} {i : Nat} (hc : ListedClosed md ops listed) : ∀ (fuel d : Nat), reachB md ops i fuel d = true → listed.getD d false = true → listed.getD i false = true
  | 0, _, h, _ => by simp [reachB] at h
  | fuel + 1, d, h, hl => by
    unfold reachB at h
    cases ho : ops[d]? with
    | none => rw [ho] at h; simp at h
    | some o =>
      rw [ho] at h
      obtain ⟨e, he, h1⟩ := Array.any_eq_true'.1 h
      simp only [Bool.and_eq_true, Bool.or_eq_true, beq_iff_eq] at h1
      have hle := hc d o ho hl e he h1.1
      rcases h1.2 with h2 | h2
      · rw [← h2]; exact hle
      · exact reach_listed hc fuel e.on h2 hle
/-- What waits for i cannot come up before i is listed. -/
theorem reach_not_ready {listed : Array Bool} {i d fuel : Nat} (hc : ListedClosed md ops listed) (hr : reachB md ops i fuel d = true) (hun : listed.getD i true = false) : d ∉ Region.ready md ops listed := by
  intro hd
  obtain ⟨_, o, ho, hall⟩ := mem_ready.1 hd
  have hi : listed.getD i false = true := by
    cases fuel with
    | zero => simp [reachB] at hr
    | succ n =>
      unfold reachB at hr
      rw [ho] at hr
      obtain ⟨e, he, h1⟩ := Array.any_eq_true'.1 hr
      simp only [Bool.and_eq_true, Bool.or_eq_true, beq_iff_eq] at h1
      have hle := hall e he h1.1
      rcases h1.2 with h2 | h2
      · rw [← h2]; exact hle
      · exact reach_listed hc n e.on h2 hle
  rcases Nat.lt_or_ge i listed.size with h' | h'
  · simp [h'] at hun hi
    rw [hun] at hi
    cases hi
  · simp [Array.getElem?_eq_none h'] at hun

/-- Whatever order is picked from here on; the blocks of B are left alone by all but those of ds. -/
def wpAnyG (P : Program) (md : Region.Mode) (ops : Array Oper) (Q : Exit → Act → World → Prop) (ds : List Nat) : Nat → Array Bool → (Nat → Prop) → Act → World → Prop
  | 0, listed, _, a, w => Region.ready md ops listed = [] ∧ Q .normal a w
  | fuel + 1, listed, B, a, w =>
    (Region.ready md ops listed = [] → Q .normal a w) ∧
    ∀ i ∈ Region.ready md ops listed, wpOp P ops Q i (fun a' w' => ∃ B' : Nat → Prop, (i ∉ ds → ∀ b, B b → B' b ∧ w'.heap[b]? = w.heap[b]?) ∧ wpAnyG P md ops Q ds fuel (listed.setIfInBounds i true) B' a' w') a w

theorem wpAny_of_G : ∀ (fuel : Nat) (listed : Array Bool) (B : Nat → Prop) (a : Act) (w : World), wpAnyG P md ops Q ds fuel listed B a w → wpAny P md ops Q fuel listed a w
  | 0, _, _, _, _, h => h
  | fuel + 1, _, _, _, _, h => ⟨h.1, fun i hi => wpOp_mono (fun a' w' ⟨B', _, h'⟩ => wpAny_of_G fuel _ B' a' w' h') (h.2 i hi)⟩

/-- S is kept as long as the blocks of B are. -/
def KeptBy (S : World → Prop) (B : Nat → Prop) : Prop := ∀ w w' : World, S w → (∀ b, B b → w'.heap[b]? = w.heap[b]?) → S w'

theorem wpAnyG_first {i : Nat} {oi : Oper} {v : Value} (hi : ops[i]? = some oi) (hsel : ∀ (j : Nat) (o : Oper) cs b, ops[j]? = some o → o.op ≠ .select cs b)
    (hQ : ∀ c a w, Q (.panic c) (a.put oi.dst v) w → Q (.panic c) a w) (n : Nat) :
    ∀ (fuel : Nat) (listed : Array Bool) (B : Nat → Prop) (a : Act) (w : World),
      (∀ (j : Nat) oj, ops[j]? = some oj → j ≠ i → listed.getD j true = false → (∀ e ∈ oj.after, Region.binds md e = true → e.on ≠ i) → oi.apart ops oj = true) →
      ListedClosed md ops listed → (∀ d ∈ ds, listed.getD d true = false → reachB md ops i n d = true) →
      i ∈ Region.ready md ops listed → YieldsIf P ops S oi v a → S w → KeptBy S B →
      wpAnyG P md ops Q ds fuel (listed.setIfInBounds i true) B (a.put oi.dst v) w → wpAnyG P md ops Q ds (fuel + 1) listed B a w := by
  intro fuel
  induction fuel with
  | zero =>
    intro listed B a w _ _ _ hr hy hS hB H
    refine ⟨fun h => (by rw [h] at hr; cases hr), fun j hj => ?_⟩
    by_cases hji : j = i
    · subst hji; exact hy.wpOp hi hS ⟨B, fun _ b hb => ⟨hb, rfl⟩, H⟩
    · have := ready_mono hj hji
      rw [H.1] at this
      cases this
  | succ fuel ih =>
    intro listed B a w hfree hc hd hr hy hS hB H
    refine ⟨fun h => (by rw [h] at hr; cases hr), fun j hj => ?_⟩
    by_cases hji : j = i
    · subst hji; exact hy.wpOp hi hS ⟨B, fun _ b hb => ⟨hb, rfl⟩, H⟩
    · have h1 := H.2 j (ready_mono hj hji)
      obtain ⟨hjun, oj, hoj, hall⟩ := mem_ready.1 hj
      have hiun := (mem_ready.1 hr).1
      have hnot : ∀ e ∈ oj.after, Region.binds md e = true → e.on ≠ i := fun e he hb heq => by
        have h1 := hall e he hb
        rw [heq] at h1
        rcases Nat.lt_or_ge i listed.size with h' | h'
        · simp [h'] at hiun h1; rw [hiun] at h1; cases h1
        · simp [Array.getElem?_eq_none h'] at h1
      have hjd : j ∉ ds := fun hm => reach_not_ready hc (hd j hm hjun) hiun hj
      have h2 := wpOp_putIf hoj (hfree j oj hoj hji hjun hnot) (fun cs b => hsel i oi cs b hi) (fun cs b => hsel j oj cs b hoj) hQ hy h1
      have hfree' : ∀ (k : Nat) ok, ops[k]? = some ok → k ≠ i → (listed.setIfInBounds j true).getD k true = false →
          (∀ e ∈ ok.after, Region.binds md e = true → e.on ≠ i) → oi.apart ops ok = true := fun k ok hk hki hun hno => by
        refine hfree k ok hk hki ?_ hno
        by_cases hjk : j = k
        · subst hjk; exact hjun
        · rw [getD_set_ne true hjk] at hun; exact hun
      have hd' : ∀ d ∈ ds, (listed.setIfInBounds j true).getD d true = false → reachB md ops i n d = true := fun d hm hun => by
        refine hd d hm ?_
        by_cases hjk : j = d
        · subst hjk; exact hjun
        · rw [getD_set_ne true hjk] at hun; exact hun
      refine wpOp_mono (fun a' w' ⟨h3, B', h4, h5⟩ => ⟨B', h4, ?_⟩) h2
      have hBB := h4 hjd
      refine ih (listed.setIfInBounds j true) B' a' w' hfree' (hc.set hj) hd' (ready_mono hr (Ne.symm hji)) h3 (hB w w' hS (fun b hb => (hBB b hb).2)) (fun w1 w2 hs1 hs2 => hB w1 w2 hs1 (fun b hb => hs2 b (hBB b hb).1)) ?_
      rw [Array.setIfInBounds_comm _ _ hji]
      exact h5

/-- An operation that yields whatever the world. -/
theorem wpAnyG_any {i : Nat} {oi : Oper} {v : Value} (hi : ops[i]? = some oi) (hsel : ∀ (j : Nat) (o : Oper) cs b, ops[j]? = some o → o.op ≠ .select cs b)
    (hQ : ∀ c a w, Q (.panic c) (a.put oi.dst v) w → Q (.panic c) a w) :
    ∀ (fuel : Nat) (listed : Array Bool) (B : Nat → Prop) (a : Act) (w : World),
      (∀ (j : Nat) oj, ops[j]? = some oj → j ≠ i → listed.getD j true = false → (∀ e ∈ oj.after, Region.binds md e = true → e.on ≠ i) → oi.apart ops oj = true) →
      i ∈ Region.ready md ops listed → Yields P ops oi v a →
      wpAnyG P md ops Q ds fuel (listed.setIfInBounds i true) B (a.put oi.dst v) w → wpAnyG P md ops Q ds (fuel + 1) listed B a w := by
  intro fuel
  induction fuel with
  | zero =>
    intro listed B a w _ hr hy H
    refine ⟨fun h => (by rw [h] at hr; cases hr), fun j hj => ?_⟩
    by_cases hji : j = i
    · subst hji; exact (hy.yieldsIf (S := fun _ => True)).wpOp hi trivial ⟨B, fun _ b hb => ⟨hb, rfl⟩, H⟩
    · have := ready_mono hj hji
      rw [H.1] at this
      cases this
  | succ fuel ih =>
    intro listed B a w hfree hr hy H
    refine ⟨fun h => (by rw [h] at hr; cases hr), fun j hj => ?_⟩
    by_cases hji : j = i
    · subst hji; exact (hy.yieldsIf (S := fun _ => True)).wpOp hi trivial ⟨B, fun _ b hb => ⟨hb, rfl⟩, H⟩
    · have h1 := H.2 j (ready_mono hj hji)
      obtain ⟨hjun, oj, hoj, hall⟩ := mem_ready.1 hj
      have hiun := (mem_ready.1 hr).1
      have hnot : ∀ e ∈ oj.after, Region.binds md e = true → e.on ≠ i := fun e he hb heq => by
        have h1 := hall e he hb
        rw [heq] at h1
        rcases Nat.lt_or_ge i listed.size with h' | h'
        · simp [h'] at hiun h1; rw [hiun] at h1; cases h1
        · simp [Array.getElem?_eq_none h'] at h1
      have h2 := wpOp_put hoj (hfree j oj hoj hji hjun hnot) (fun cs b => hsel i oi cs b hi) (fun cs b => hsel j oj cs b hoj) hQ hy h1
      have hfree' : ∀ (k : Nat) ok, ops[k]? = some ok → k ≠ i → (listed.setIfInBounds j true).getD k true = false →
          (∀ e ∈ ok.after, Region.binds md e = true → e.on ≠ i) → oi.apart ops ok = true := fun k ok hk hki hun hno => by
        refine hfree k ok hk hki ?_ hno
        by_cases hjk : j = k
        · subst hjk; exact hjun
        · rw [getD_set_ne true hjk] at hun; exact hun
      refine wpOp_mono (fun a' w' ⟨h3, B', h4, h5⟩ => ⟨B', h4, ih (listed.setIfInBounds j true) B' a' w' hfree' (ready_mono hr (Ne.symm hji)) h3 ?_⟩) h2
      rw [Array.setIfInBounds_comm _ _ hji]
      exact h5
theorem wpAnyG_done {listed : Array Bool} {B : Nat → Prop} {a : Act} {w : World} (hr : Region.ready md ops listed = []) (h : Q .normal a w) :
    ∀ fuel, wpAnyG P md ops Q ds fuel listed B a w
  | 0 => ⟨hr, h⟩
  | _ + 1 => ⟨fun _ => h, by rw [hr]; simp⟩
theorem wp_region_G {id : Nat} {a : Act} {w : World} {B : Nat → Prop} (hm : P.follows .mixedOrders = true)
    (h : wpAnyG P .any ops Q ds ops.size (Array.replicate ops.size false) B a { w with drawn := w.drawn + 1 }) : (Code.region id ops true).wp P Q a w :=
  wp_region_any hm (wpAny_of_G _ _ _ _ _ h)
end

/-! ## 2. A schedule -/
/-- take i: operation i first (l: a load); alt i s more: i may come up now, then s; or more. -/
inductive Sch where
  | done
  | take (i : Nat) (l : Bool) (s : Sch)
  | alt (i : Nat) (s more : Sch)
def Sch.idx : Sch → List Nat
  | .alt i _ more => i :: more.idx
  | _ => []
def schOk (ops : Array Oper) (ds : List Nat) : Bool → Sch → Nat → Array Bool → Bool
  | false, .done, _, l => Region.ready .any ops l == []
  | true, .done, _, _ => true
  | false, .take i ld s, n + 1, l => Region.free .any ops l i && (Region.ready .any ops l).contains i && (!ld || (closedB .any ops l && lastB .any ops l ds i)) && schOk ops ds false s n (l.setIfInBounds i true)
  | b, .alt i s more, n + 1, l => (b || Region.ready .any ops l == i :: more.idx) && schOk ops ds false s n (l.setIfInBounds i true) && schOk ops ds true more (n + 1) l
  | _, _, _, _ => false

/-- What an operation that is taken first yields. -/
def pureV (tt : TT) (st : St) (op : Op) : Option (Cnd × TV) := match op with
  | .pick _ _ _ => none
  | .load _ _ => none
  | op => val2 tt st op
def memLeK (o : Option AObj) (o1 : AObj) (X : Prop) : Prop := match o with
  | some (.rows _ _ m _ _) => match o1 with
    | .rows _ _ m1 _ _ => m ≤ m1 ∧ X
    | _ => False
  | some .dead => X
  | none => X
  | some _ => match o1 with
    | .box _ _ => X
    | .row _ _ _ _ => X
    | _ => False
theorem memLeK_ok {o : Option AObj} {o1 : AObj} {X : Prop} (h : memLeK o o1 X) : memLe o (some o1) ∧ X := by
  unfold memLeK at h
  unfold memLe
  cases o with
  | none => exact ⟨trivial, h⟩
  | some o => cases o <;> cases o1 <;> first | exact ⟨trivial, h⟩ | exact h | exact h.elim
def loadOk (al : List Nat × List AObj) (st : St) (x : TV) (X : Prop) : Prop := match addrRef x with
  | none => X
  | some r => match nth al.2 r.k with
    | none => False
    | some o => match hasB r.k al.1 with
      | true => False
      | false => memLeK (nth st.loc r.k) o X
def takeV (tt : TT) (al : List Nat × List AObj) (ops : List Oper) (st : St) (o : Oper) (ld : Bool) (K : St → Prop) : Prop :=
  guardV ops st o (fun st => match ld with
    | true => match o.op with
      | .load t x => match val2 tt st o.op with
        | some (c, tv) => loadOk al st (ev st x) (c.and (st.putK o.dst tv K))
        | none => False
      | _ => False
    | false => match o.op with
      | .pick c x y => match ev st c with
        | .c (.v (.bool b)) => match b with
          | true => st.putK o.dst (ev st x) K
          | false => st.putK o.dst (ev st y) K
        | _ => False
      | _ => match pureV tt st o.op with
        | some (c, tv) => c.and (valK o.op st o.dst tv K)
        | none => False) (fun st => st.putK o.dst (.t []) K)
def drawV (P : Program) (tt : TT) (al : List Nat × List AObj) (ds : List Nat) (ops : List Oper) : Bool → Sch → St → (St → Prop) → Prop
  | true, .done, _, _ => True
  | false, .done, st, K => K st
  | _, .take i ld s, st, K => match nth ops i with
    | some o => takeV tt al ops st o ld fun st => drawV P tt al ds ops false s st K
    | none => False
  | b, .alt i s .done, st, K => match nth ops i with
    | some o => match hasB i ds with
      | true => step P tt none ops st o fun st => drawV P tt al ds ops false s st K
      | false => step P tt (some al) ops st o fun st => drawV P tt al ds ops false s st K
    | none => False
  | b, .alt i s more, st, K => (match nth ops i with
    | some o => match hasB i ds with
      | true => step P tt none ops st o fun st => drawV P tt al ds ops false s st K
      | false => step P tt (some al) ops st o fun st => drawV P tt al ds ops false s st K
    | none => False) ∧ drawV P tt al ds ops true more st K

section
variable {P : Program} {C : Ctx} {w w' : World} {M M' : Mp} {Z Z' : Nat → Prop} {st st' : St} {a a' : Act} {tt : TT}

def Ctx.here (M : Mp) (Z : Nat → Prop) (st : St) (w : World) : Ctx := { T := Blks M st.loc, w0 := w, M0 := M, Z0 := Z }
theorem RelC.narrow (h : RelC C M Z st a w) : RelC (Ctx.here M Z st w) M Z st a w :=
  ⟨⟨h.r.h.narrow, h.r.size, h.r.tm, h.r.fz, h.r.defers⟩, Mp.le.refl _, fun _ h => h, fun _ h => .inl h⟩
theorem RelC.widen (h : RelC C M Z st a w) (h' : RelC (Ctx.here M Z st w) M' Z' st' a' w') : RelC C M' Z' st' a' w' := by
  have hT : ∀ b, Blks M st.loc b → C.T b ∨ C.w0.heap.size ≤ b := fun b ⟨r, v, h1, h2, h3⟩ => h.r.h.new r v b h1 h2 h3
  have hs : w.heap.size ≤ w'.heap.size := h'.r.h.since.size
  refine ⟨⟨⟨h.r.h.since.trans h'.r.h.since (fun b hb _ => hT b hb), h'.r.h.len, h'.r.h.ok, h'.r.h.inj, h'.r.h.zapart, h'.r.h.zlt, fun r v b h1 h2 h3 => ?_⟩, h'.r.size, h'.r.tm, h'.r.fz, h'.r.defers⟩, h.e.trans h'.e, fun b hb => h'.z0 b (h.z0 b hb), fun b hb => ?_⟩
  · rcases h'.r.h.new r v b h1 h2 h3 with p | p
    · exact hT b p
    · exact .inr (Nat.le_trans h.r.h.since.size p)
  · rcases h'.z1 b hb with p | p | p
    · exact h.z1 b p
    · exact .inr (hT b p)
    · exact .inr (.inr (Nat.le_trans h.r.h.since.size p))

theorem guard_ok (h : RelC C M Z st a w) {ops : Array Oper} {o : Oper} {body skip : St → Prop} (hs : guardV ops.toList st o body skip) :
    (Region.wanted o (yielded ops a.tmps) = true ∧ ∃ st', RelC C M Z st' a w ∧ st'.loc = st.loc ∧ body st') ∨ (Region.wanted o (yielded ops a.tmps) = false ∧ ∃ st', RelC C M Z st' a w ∧ st'.loc = st.loc ∧ skip st') := by
  unfold guardV at hs
  split at hs
  · rename_i hg
    exact .inl ⟨by simp [Region.wanted, hg], st, h, rfl, hs⟩
  · rename_i j want hg
    split at hs
    · rename_i oj hj
      rw [nth_eq] at hj
      split at hs
      · rename_i t hd
        split at hs
        · rename_i b hb
          have hbe : a.eval (.tmp t) = .bool b := bool_ok h (x := .tmp t) hb
          have hget : a.tmps[t]? = some (.bool b) := by
            have hbe' : a.tmps.getD t undef = .bool b := hbe
            rw [Array.getD_eq_getD_getElem?] at hbe'
            cases hq : a.tmps[t]? with
            | none => rw [hq] at hbe'; cases hbe'
            | some q => rw [hq] at hbe'; simpa using hbe'
          have hy : yielded ops a.tmps j = some b := by
            have hd' : (ops[j]?).bind (·.dst) = some t := by rw [← Array.getElem?_toList, hj]; exact hd
            unfold yielded
            rw [hd']
            simp [hget]
          cases b <;> cases want <;> simp only at hs
          · exact .inl ⟨by simp [Region.wanted, hg, hy], st, h, rfl, hs⟩
          · exact .inr ⟨by simp [Region.wanted, hg, hy], st, h, rfl, hs⟩
          · exact .inr ⟨by simp [Region.wanted, hg, hy], st, h, rfl, hs⟩
          · exact .inl ⟨by simp [Region.wanted, hg, hy], st, h, rfl, hs⟩
        · rename_i l hl
          split at hs
          · have hy := yield_undef h hj hd hl
            exact .inr ⟨by simp [Region.wanted, hg, hy], st, h, rfl, hs⟩
          · exact hs.elim
        · exact hs.elim
      · exact hs.elim
    · exact hs.elim

theorem memLe_live {loc loc1 : List AObj} {q : Ref} (hq : liveAt loc q) (k2 : memLe (nth loc q.k) (nth loc1 q.k)) : liveAt loc1 q := by
  obtain ⟨o, ho, hlo⟩ := hq
  unfold lk at ho
  rw [nth_eq, nth_eq] at k2
  cases hO : loc[q.k]? with
  | none => rw [hO] at ho; cases ho
  | some O =>
    rw [hO] at ho k2
    simp only [Option.bind_some] at ho
    cases O with
    | dead => simp only [AObj.mem] at ho; split at ho <;> cases ho; cases hlo
    | rows t sz m n f =>
      simp only [memLe] at k2
      simp only [AObj.mem] at ho
      split at ho
      · rename_i hi
        split at k2
        · rename_i e1; exact ⟨_, by unfold lk; rw [e1]; simp only [Option.bind_some, AObj.mem]; rw [if_pos (Nat.lt_of_lt_of_le hi k2)], rfl⟩
        · exact k2.elim
      · cases ho
    | box t cs =>
      simp only [memLe] at k2
      simp only [AObj.mem] at ho
      split at ho
      · rename_i hi
        split at k2
        · rename_i e1; exact ⟨_, by unfold lk; rw [e1]; simp only [Option.bind_some, AObj.mem]; rw [if_pos hi], rfl⟩
        · rename_i e1; exact ⟨_, by unfold lk; rw [e1]; simp only [Option.bind_some, AObj.mem]; rw [if_pos hi], rfl⟩
        · exact k2.elim
      · cases ho
    | row t sz n f =>
      simp only [memLe] at k2
      simp only [AObj.mem] at ho
      split at ho
      · rename_i hi
        split at k2
        · rename_i e1; exact ⟨_, by unfold lk; rw [e1]; simp only [Option.bind_some, AObj.mem]; rw [if_pos hi], rfl⟩
        · rename_i e1; exact ⟨_, by unfold lk; rw [e1]; simp only [Option.bind_some, AObj.mem]; rw [if_pos hi], rfl⟩
        · exact k2.elim
      · cases ho

theorem load_live {ti : TI} {x : TV} {c : Cnd} {y : TV} (hl : loadV ti st x = some (c, y)) (hc : c.h) {r : Ref} (hr : addrRef x = some r) : liveAt st.loc r := by
  unfold loadV at hl
  split at hl
  · cases hr
  · cases hr
    split at hl
    · rename_i c0 rt sz' n f ho0
      split at hl
      · split at hl
        · split at hl
          · cases hl
            exact ⟨_, lkV_ok ho0 ((Cnd.or2_h _ _).1 hc).1, rfl⟩
          · cases hl
        · cases hl
      · cases hl
    · cases hl
  · cases hr
    split at hl
    · rename_i c0 bt cs ho0
      split at hl
      · split at hl
        · cases hl; exact ⟨_, lkV_ok ho0 hc, rfl⟩
        · cases hl
      · cases hl
    · cases hl
  · cases hl

/-- The objects that nobody may turn in this region. -/
def Calm (al : List Nat × List AObj) (M1 : Mp) (b : Nat) : Prop := ∃ r v, liveAt al.2 r ∧ hasB r.k al.1 = false ∧ M1.at r = some v ∧ blkOf v = some b

theorem pureV_ok (hT : TOk P tt) (h : RelC C M Z st a w) {o : Oper} {c : Cnd} {r : TV} (hv : pureV tt st o.op = some (c, r)) (hc : c.h) :
    ∃ v, TRel M w Z r v ∧ ∀ w', (execOp a.eval o).run P w' = .ok (.value v) w' := by
  unfold pureV at hv
  split at hv
  · cases hv
  · cases hv
  · rename_i hnl
    obtain ⟨v, h1, h2⟩ := val2_ok hT h hv hc
    refine ⟨v, h1, fun w' => h2 w' (fun hl => ?_)⟩
    cases hop : o.op with
    | load t x => exact (hnl t x hop).elim
    | _ => rw [hop] at hl; cases hl

theorem takeV_ok (hT : TOk P tt) (h : RelC C M Z st a w) {al : List Nat × List AObj} {M1 : Mp} (hM1 : M1.le M) (hlen : M1.length = al.2.length) {ops : Array Oper} {o : Oper} {ld : Bool} {K : St → Prop} (hs : takeV tt al ops.toList st o ld K) :
    ∃ v, Good (Ctx.here M Z st w) K (a.put o.dst v) w ∧ (ld = true → YieldsIf P ops (fun w' => ∀ b, (Z b ∨ Calm al M1 b) → w'.heap[b]? = w.heap[b]?) o v a) ∧ (ld = false → Yields P ops o v a) := by
  have hn := h.narrow
  rcases guard_ok hn hs with ⟨hw, st', h', hloc, hb⟩ | ⟨hw, st', h', hloc, hb⟩
  · cases ld with
    | true =>
      simp only at hb
      split at hb
      · rename_i t x hop
        split at hb
        · rename_i c tv hv
          -- the load's object
          have hex : (∀ r, addrRef (ev st' x) = some r → (hasB r.k al.1 = false ∧ memLe (nth st'.loc r.k) (nth al.2 r.k) ∧ r.k < al.2.length)) ∧ c.and (st'.putK o.dst tv K) := by
            unfold loadOk at hb
            split at hb
            · rename_i e; exact ⟨fun r hr => (by rw [e] at hr; cases hr), hb⟩
            · rename_i r e
              split at hb
              · exact hb.elim
              · rename_i o1 ho1
                split at hb
                · exact hb.elim
                · rename_i hh
                  have hb := memLeK_ok hb
                  refine ⟨fun r' hr => ?_, hb.2⟩
                  rw [e] at hr; cases hr
                  rw [ho1]
                  rw [nth_eq] at ho1
                  exact ⟨hh, hb.1, (List.getElem?_eq_some_iff.1 ho1).1⟩
          obtain ⟨hr, hb⟩ := hex
          rw [Cnd.and_iff] at hb
          obtain ⟨v, h1, h2⟩ := val2_ok hT h' hv hb.1
          refine ⟨v, Good.put h' o.dst h1 hb.2, fun _ => .inl ⟨hw, fun w' hS => h2 w' (fun _ => ⟨fun b hb => hS b (.inl hb), fun q hq v' b hv' hb' => hS b (.inr ?_)⟩)⟩, fun e => by cases e⟩
          have hq' : addrRef (ev st' x) = some q := by rw [hop] at hq; exact hq
          obtain ⟨p1, p2, p3⟩ := hr q hq'
          have hlv : liveAt st'.loc q := by
            have hv' : val2 tt st' (.load t x) = some (c, tv) := by rw [← hop]; exact hv
            simp only [val2, val] at hv'
            split at hv'
            · exact load_live hv' hb.1 hq'
            · cases hv'
          refine ⟨q, v', memLe_live hlv p2, p1, ?_, hb'⟩
          have : ∃ u, M1.at q = some u := by
            unfold Mp.at
            rw [List.getElem?_eq_getElem (by rw [hlen]; exact p3)]
            exact ⟨_, rfl⟩
          obtain ⟨u, hu⟩ := this
          have := hM1 q u hu
          rw [hv'] at this
          cases this
          exact hu
        · exact hb.elim
      · exact hb.elim
    | false =>
      simp only at hb
      split at hb
      · rename_i c x y hop
        split at hb
        · rename_i b hbb
          have hbe := bool_ok h' hbb
          refine ⟨if b then a.eval x else a.eval y, ?_, fun e => (by cases e), fun _ => .inl ⟨hw, fun w' => by simp [execOp, hop, hbe, asBool]⟩⟩
          cases b with
          | true => exact Good.put h' o.dst (ev_ok h'.r x) hb
          | false => exact Good.put h' o.dst (ev_ok h'.r y) hb
        · exact hb.elim
      · split at hb
        · rename_i c tv hv
          rw [Cnd.and_iff] at hb
          obtain ⟨v, h1, h2⟩ := pureV_ok hT h' hv hb.1
          exact ⟨v, valK_ok h' (fun o2 t x y u p e hp => by rw [e] at hv; exact val2_bin hv hp) h1 hb.2, fun e => (by cases e), fun _ => .inl ⟨hw, h2⟩⟩
        · exact hb.elim
  · refine ⟨undef, Good.put h' o.dst (x := .t []) undef_rel hb, fun _ => .inr ⟨hw, rfl⟩, fun _ => .inr ⟨hw, rfl⟩⟩

theorem drawV_ok (hT : TOk P tt) {al : List Nat × List AObj} {M1 : Mp} {ops : Array Oper} {ds : List Nat} (hns : Region.noSelect ops = true) {Q : Exit → Act → World → Prop} {K : St → Prop}
    (hlen : M1.length = al.2.length) (hCe : C.M0.le M1) (hinj : ∀ r r' v v' b, liveAt al.2 r → liveAt al.2 r' → M1.at r = some v → M1.at r' = some v' → blkOf v = some b → blkOf v' = some b → r = r')
    (hQ : ∀ a w, Good C K a w → Q .normal a w) (hQp : ∀ c a w, ¬ Q (.panic c) a w) :
    ∀ (s : Sch) (n : Nat) (l : Array Bool) {M Z st a w}, RelC C M Z st a w → M1.le M → (∀ b, Calm al M1 b → b < w.heap.size) →
      (schOk ops ds false s n l = true → drawV P tt al ds ops.toList false s st K → wpAnyG P .any ops Q ds n l (fun b => Z b ∨ Calm al M1 b) a w) ∧
      (schOk ops ds true s (n + 1) l = true → drawV P tt al ds ops.toList true s st K → ∀ i ∈ s.idx, wpOp P ops Q i (fun a' w' => ∃ B' : Nat → Prop, (i ∉ ds → ∀ b, (Z b ∨ Calm al M1 b) → B' b ∧ w'.heap[b]? = w.heap[b]?) ∧ wpAnyG P .any ops Q ds n (l.setIfInBounds i true) B' a' w') a w) := by
  -- one operation that may come up now
  have one : ∀ (i : Nat) (s : Sch) (n : Nat) (l : Array Bool), (∀ {M Z st a w}, RelC C M Z st a w → M1.le M → (∀ b, Calm al M1 b → b < w.heap.size) → drawV P tt al ds ops.toList false s st K → wpAnyG P .any ops Q ds n (l.setIfInBounds i true) (fun b => Z b ∨ Calm al M1 b) a w) →
      ∀ {M Z st a w}, RelC C M Z st a w → M1.le M → (∀ b, Calm al M1 b → b < w.heap.size) →
      (match nth ops.toList i with
        | some o => match hasB i ds with
          | true => step P tt none ops.toList st o fun st => drawV P tt al ds ops.toList false s st K
          | false => step P tt (some al) ops.toList st o fun st => drawV P tt al ds ops.toList false s st K
        | none => False) →
      wpOp P ops Q i (fun a' w' => ∃ B' : Nat → Prop, (i ∉ ds → ∀ b, (Z b ∨ Calm al M1 b) → B' b ∧ w'.heap[b]? = w.heap[b]?) ∧ wpAnyG P .any ops Q ds n (l.setIfInBounds i true) B' a' w') a w := by
    intro i s n l ih M Z st a w h hM1 hcalm hk
    split at hk
    · rename_i o ho
      rw [nth_eq] at ho
      have ho' : ops[i]? = some o := by rw [← Array.getElem?_toList]; exact ho
      -- what follows, once the operation is done
      have fin : ∀ (al' : Lim) a' w', (hasB i ds = false → al' = some al) → Good (Ctx.here M Z st w) (fun st => drawV P tt al ds ops.toList false s st K) a' w' → Kept al' M Z w w' →
          ∃ B' : Nat → Prop, (i ∉ ds → ∀ b, (Z b ∨ Calm al M1 b) → B' b ∧ w'.heap[b]? = w.heap[b]?) ∧ wpAnyG P .any ops Q ds n (l.setIfInBounds i true) B' a' w' := by
        intro al' a' w' hal ⟨M', Z', st', h', hk'⟩ hkept
        have hsz : w.heap.size ≤ w'.heap.size := h'.r.h.since.size
        refine ⟨fun b => Z' b ∨ Calm al M1 b, fun hi b hb => ?_, ih (h.widen h') (hM1.trans h'.e) (fun b hb => Nat.lt_of_lt_of_le (hcalm b hb) hsz) hk'⟩
        have hnd : hasB i ds = false := by
          cases hq : hasB i ds with
          | false => rfl
          | true => exact absurd (hasB_mem.1 hq) hi
        have hal' := hal hnd
        subst hal'
        obtain ⟨k1, k2⟩ := hkept
        rcases hb with hb | hb
        · exact ⟨.inl (h'.z0 b hb), k2 b hb⟩
        · refine ⟨.inr hb, k1.block b (hcalm b hb) ?_⟩
          rintro ⟨r, v, p1, p2, p3, p4⟩
          obtain ⟨r0, v0, q1, q2, q3, q4⟩ := hb
          have hr : r.k < M1.length := by
            rw [hlen]
            obtain ⟨o1, ho1, _⟩ := p1
            exact lk_lt ho1
          have : ∃ u, M1.at r = some u := by
            unfold Mp.at
            rw [List.getElem?_eq_getElem hr]
            exact ⟨_, rfl⟩
          obtain ⟨u, hu⟩ := this
          have hu2 := hM1 r u hu
          rw [p2] at hu2
          cases hu2
          have := hinj r r0 v v0 b p1 q1 hu q3 p3 q4
          rw [this, q2] at p4
          cases p4
      unfold wpOp
      rw [ho']
      dsimp only
      have go : ∀ (al' : Lim), (hasB i ds = false → al' = some al) → step P tt al' ops.toList st o (fun st => drawV P tt al ds ops.toList false s st K) →
          if Region.wanted o (yielded ops a.tmps) = true then o.wp P a w (fun a' w' => ∃ B' : Nat → Prop, (i ∉ ds → ∀ b, (Z b ∨ Calm al M1 b) → B' b ∧ w'.heap[b]? = w.heap[b]?) ∧ wpAnyG P .any ops Q ds n (l.setIfInBounds i true) B' a' w') Q ∨ (o.asks P a w ∧ LetsOut Q)
          else (∃ B' : Nat → Prop, (i ∉ ds → ∀ b, (Z b ∨ Calm al M1 b) → B' b ∧ w.heap[b]? = w.heap[b]?) ∧ wpAnyG P .any ops Q ds n (l.setIfInBounds i true) B' (a.put o.dst undef) w) := by
        intro al' hal hst
        have hstep := step_ok (Q := Q) hT h.narrow (ops := ops) (o := o) hst
        by_cases hw : Region.wanted o (yielded ops a.tmps) = true
        · rw [if_pos hw] at hstep ⊢
          exact .inl (Oper.wp_mono (fun a' w' hg => fin al' a' w' hal hg.1 hg.2) hstep)
        · rw [if_neg hw] at hstep ⊢
          exact fin al' _ _ hal hstep (Kept.refl h)
      split at hk
      · rename_i hd; exact go none (fun e => by rw [e] at hd; cases hd) hk
      · exact go (some al) (fun _ => rfl) hk
    · exact hk.elim
  intro s
  induction s with
  | done =>
    intro n l M Z st a w h hM1 hcalm
    refine ⟨fun hs hk => ?_, fun _ _ i hi => by cases hi⟩
    refine wpAnyG_done (by simpa [schOk] using hs) (hQ _ _ ⟨M, Z, st, h, hk⟩) n
  | take i ld s ih =>
    intro n l M Z st a w h hM1 hcalm
    refine ⟨fun hs hk => ?_, fun _ _ i hi => by cases hi⟩
    cases n with
    | zero => simp [schOk] at hs
    | succ n =>
      simp only [schOk, Bool.and_eq_true] at hs
      obtain ⟨⟨⟨h1, h2⟩, h3⟩, h4⟩ := hs
      simp only [drawV] at hk
      split at hk
      · rename_i o ho
        rw [nth_eq] at ho
        have ho' : ops[i]? = some o := by rw [← Array.getElem?_toList]; exact ho
        obtain ⟨v, ⟨M', Z', st', h', hk'⟩, hy1, hy2⟩ := takeV_ok hT h hM1 hlen hk
        have hrec := ((ih n (l.setIfInBounds i true) (h.widen h') (hM1.trans h'.e) hcalm).1 h4 hk')
        have hfree := Region.free_spec ho' h1
        have hready : i ∈ Region.ready .any ops l := by simpa using h2
        have hQ' : ∀ c a w, Q (.panic c) (a.put o.dst v) w → Q (.panic c) a w := fun c a w hq => (hQp _ _ _ hq).elim
        -- fewer blocks to be kept
        have hmono : ∀ (n : Nat) (l : Array Bool) (B B' : Nat → Prop) a w, (∀ b, B b → B' b) → wpAnyG P .any ops Q ds n l B' a w → wpAnyG P .any ops Q ds n l B a w := by
          intro n l B B' a w hB hG
          cases n with
          | zero => exact hG
          | succ n => exact ⟨hG.1, fun j hj => wpOp_mono (fun a' w' ⟨B2, p1, p2⟩ => ⟨B2, fun hjd b hb => p1 hjd b (hB b hb), p2⟩) (hG.2 j hj)⟩
        have hrec' := hmono n _ (fun b => Z b ∨ Calm al M1 b) _ _ _ (fun b hb => hb.imp (h'.z0 b) id) hrec
        cases ld with
        | false => exact wpAnyG_any ho' (Region.noSelect_spec hns) hQ' n l _ a w hfree hready (hy2 rfl) hrec'
        | true =>
          simp only [Bool.not_true, Bool.false_or, Bool.and_eq_true] at h3
          exact wpAnyG_first (S := fun w' => ∀ b, (Z b ∨ Calm al M1 b) → w'.heap[b]? = w.heap[b]?) ho' (Region.noSelect_spec hns) hQ' ops.size n l _ a w hfree (closedB_spec h3.1)
            (fun d hm hun => by have := List.all_eq_true.1 h3.2 d hm; rw [hun] at this; simpa using this) hready (hy1 rfl) (fun _ _ => rfl) (fun w1 w2 hs1 hs2 b hb => (hs2 b hb).trans (hs1 b hb)) hrec'
      · exact hk.elim
  | alt i s more ih1 ih2 =>
    intro n l M Z st a w h hM1 hcalm
    have both : ∀ (b : Bool) (n : Nat), schOk ops ds b (.alt i s more) (n + 1) l = true → drawV P tt al ds ops.toList b (.alt i s more) st K → ∀ j ∈ (Sch.alt i s more).idx, wpOp P ops Q j (fun a' w' => ∃ B' : Nat → Prop, (j ∉ ds → ∀ b, (Z b ∨ Calm al M1 b) → B' b ∧ w'.heap[b]? = w.heap[b]?) ∧ wpAnyG P .any ops Q ds n (l.setIfInBounds j true) B' a' w') a w := by
      intro b n hs hk j hj
      have hs' : schOk ops ds false s n (l.setIfInBounds i true) = true ∧ schOk ops ds true more (n + 1) l = true := by
        cases b <;> simp only [schOk, Bool.and_eq_true] at hs <;> exact ⟨hs.1.2, hs.2⟩
      have hk' : (match nth ops.toList i with
        | some o => match hasB i ds with
          | true => step P tt none ops.toList st o fun st => drawV P tt al ds ops.toList false s st K
          | false => step P tt (some al) ops.toList st o fun st => drawV P tt al ds ops.toList false s st K
        | none => False) ∧ (more.idx = [] ∨ drawV P tt al ds ops.toList true more st K) := by
        cases more with
        | done => cases b <;> exact ⟨hk, .inl rfl⟩
        | take => cases b <;> exact ⟨hk.1, .inl rfl⟩
        | alt => cases b <;> exact ⟨hk.1, .inr hk.2⟩
      rcases List.mem_cons.1 hj with rfl | hj
      · exact one j s n l (fun h hM1 hcalm hk => (ih1 n _ h hM1 hcalm).1 hs'.1 hk) h hM1 hcalm hk'.1
      · rcases hk'.2 with e | e
        · rw [e] at hj; cases hj
        · exact (ih2 n l h hM1 hcalm).2 hs'.2 e j hj
    refine ⟨fun hs hk => ?_, fun hs hk => both true n hs hk⟩
    cases n with
    | zero => simp [schOk] at hs
    | succ n =>
      have hready : Region.ready .any ops l = (Sch.alt i s more).idx := by
        simp only [schOk, Bool.and_eq_true, Bool.false_or, beq_iff_eq] at hs
        exact hs.1.1
      refine ⟨fun h0 => (by rw [hready] at h0; cases h0), fun j hj => ?_⟩
      rw [hready] at hj
      exact both false n hs hk j hj
end
end Go.Proofs.AY
