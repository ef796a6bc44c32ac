/- The statement FnLogReplayRead: for every input the law returns true, and its arguments read behind the call as they read before. Conditions: none. -/
import Derived.Test.YteippbbcihgabaaRows
import Derived.Test.YteippbbcihgabaaBAyS54
import Derived.WalkKit
import Derived.ProofKit
import Derived.OpenShut
import Derived.ShutString
import Derived.ChangeOld
import Derived.Below
import Derived.SizedLaws
set_option linter.unusedVariables false
set_option linter.unusedSimpArgs false
namespace Go.Proofs.Yteippbbcihgabaa.fnLogReplayRead
open Go Go.ChangeShapes Go.WideShapes Go.ChangeAt Go.RowKit
open Go.Proofs.AY
theorem own : ownKnob Go.Proofs.Try.prog.godebug = none := by kernel_rfl
theorem laidOut : laidOutB Go.Proofs.Try.prog = true := by kernel_rfl
def IsRow (w : World) (a : Option Addr) (len cap : Nat) (zs : List Int) : Prop :=
  (a = none ∧ len = 0 ∧ cap = 0 ∧ zs = []) ∨
  ∃ x, a = some x ∧ len ≤ cap ∧ cap ≤ maxLen ∧ zs.length = cap ∧ (∀ i, i < zs.length → w.cell? (x.add i) = some (.int .u8 (zs.getD i 0))) ∧ ∀ n ∈ zs, (Lit.int .u8 n).wf = true
theorem cell_lt {w : World} {a : Addr} {v : Value} (h : w.cell? a = some v) : a.block < w.heap.size := by
  unfold World.cell? at h
  split at h
  · rename_i hb; exact (Array.getElem?_eq_some_iff.1 hb).1
  · cases h
/-- The bytes lie in the block that they lie in. -/
def Zof (a : Option Addr) (len : Nat) (b : Nat) : Prop := ∃ x, a = some x ∧ 0 < len ∧ b = x.block
theorem row_byte {w : World} {a : Option Addr} {len cap : Nat} {zs : List Int} (h : IsRow w a len cap zs) (i : Nat) : 0 ≤ zs.getD i 0 ∧ zs.getD i 0 < 256 := by
  have key : ∀ n ∈ zs, (Lit.int .u8 n).wf = true := by
    rcases h with ⟨_, _, _, rfl⟩ | ⟨x, _, _, _, _, _, h⟩
    · intro n hn; cases hn
    · exact h
  by_cases hi : i < zs.length
  · have hm : zs.getD i 0 ∈ zs := by rw [List.getD_eq_getElem?_getD, List.getElem?_eq_getElem hi]; simp
    have := key _ hm
    simp only [Lit.wf, Bool.and_eq_true, decide_eq_true_eq] at this
    have h0 : (IntKind.u8.min : Int) = 0 := rfl
    have h1 : (IntKind.u8.max : Int) = 255 := rfl
    omega
  · rw [List.getD_eq_getElem?_getD, List.getElem?_eq_none (by omega)]
    simp
theorem row_imm {w : World} {a : Option Addr} {len cap : Nat} {zs : List Int} (h : IsRow w a len cap zs) : Imm w (Zof a len) (.d 1 len (fun i => [.v (.int .u8 (zs.getD i 0))])) (.slice a len cap) := by
  rcases h with ⟨rfl, rfl, rfl, rfl⟩ | ⟨x, rfl, hl, hm, hz, hc, _⟩
  · exact .d (fun _ _ => undef) (Nat.le_refl _) (Nat.zero_le _) (fun _ => rfl) (fun h => absurd h (Nat.lt_irrefl _)) (fun i hi => absurd hi (Nat.not_lt_zero _)) (fun i j x hi _ => absurd hi (Nat.not_lt_zero _))
  · refine .d (fun i _ => .int .u8 (zs.getD i 0)) hl hm (fun h => by cases h) (fun hn => ⟨x, rfl, ⟨x, rfl, hn, rfl⟩, fun i j hi hj => ?_⟩) (fun i hi => rfl) (fun i j y hi hy => ?_)
    · have : i * 1 + j = i := by omega
      rw [this]
      exact hc i (by omega)
    · have : j = 0 := by
        rcases j with _ | j
        · rfl
        · simp at hy
      subst this
      simp at hy
      subst hy
      exact .v rfl
theorem row_lt {w : World} {a : Option Addr} {len cap : Nat} {zs : List Int} (h : IsRow w a len cap zs) {b : Nat} (hb : Zof a len b) : b < w.heap.size := by
  obtain ⟨x, rfl, hn, rfl⟩ := hb
  rcases h with ⟨h, _⟩ | ⟨y, hy, hl, _, hz, hc, _⟩
  · cases h
  · cases hy
    have := hc 0 (by omega)
    have hcell : w.cell? (x.add 0) = some (.int .u8 (zs.getD 0 0)) := this
    have hblk : (x.add 0).block = x.block := by unfold Addr.add; split <;> rfl
    rw [← hblk]
    exact cell_lt hcell
theorem walk (a0 : Option Addr) (len0 cap0 : Nat) (z0 : List Int) (w : World) (w0 : IsRow w a0 len0 cap0 z0) :
    Calls Go.Proofs.Try.prog 11 #[.slice a0 len0 cap0] w fun e w' => e = .returned (.bool true) ∧ Below w.heap.size w w' := by
  have hc := (Go.Proofs.AYT.FnLogReplayRead_ok len0 (fun i => z0.getD i 0) (row_byte w0)).2 w [] (fun b => Zof a0 len0 b) [.slice a0 len0 cap0]
  have hrel : HRel (Blks [] []) w [] (fun b => Zof a0 len0 b) [] w :=
    { since := Since.refl _ _, len := rfl, ok := fun r o h => by simp [lk] at h
      inj := fun r r' v v' b h _ _ _ _ _ => by obtain ⟨o, h, _⟩ := h; simp [lk] at h
      zapart := fun r v b h _ _ => by obtain ⟨o, h, _⟩ := h; simp [lk] at h
      zlt := fun b h => row_lt w0 h, new := fun r v b h _ _ => by obtain ⟨o, h, _⟩ := h; simp [lk] at h }
  refine (hc hrel (.cons (Imm.mono (row_imm w0) (fun _ _ => rfl) (fun b h => h)) .nil)).mono ?_
  rintro e w' ⟨u, r, objs', M', Z', he, ⟨ho, hr⟩, _, _, _, hh, ht⟩
  subst hr
  have hu : u = .bool true := ht.1
  refine ⟨by rw [he, hu], hh.since.os, hh.since.tape, hh.since.output, hh.since.size, fun k hk => hh.since.block k hk ?_⟩
  rintro ⟨r, v, ⟨o, h, _⟩, _, _⟩
  simp [lk] at h
set_option maxRecDepth 100000 in
theorem lifted (os : Os) (started : os.Started) (H : Type) (enc : TypeId × Value → H) :
    ReturnsInHanded {} Go.Proofs.Try.checked os 11 .any (Rows.fnLogReplayReadSpec.pre6 enc Go.Proofs.Try.prog Go.Proofs.Try.f11 Rows.fnLogReplayReadRow.domain false) (Rows.fnLogReplayReadSpec.post enc Go.Proofs.Try.prog Go.Proofs.Try.f11 false true false false) := by
  refine returnsInHanded_of_change_sized (C := Go.Proofs.Try.checked) own started (by kernel_rfl) Go.Proofs.Try.func11
    (ChangeSpec.witness6 (enc := enc) (C := Go.Proofs.Try.checked) false ⟨#[], #[.slice none 0 0], []⟩ 8 (by kernel_rfl) (by kernel_rfl) (by kernel_rfl) (by kernel_rfl)) ?_
  intro W base args ds gs before hval0 hW hcnd hsz0 _
  have hval : ∀ (j : Nat) t v, Go.Proofs.Try.f11.params[j]? = some t → args[j]? = some v → Value.okWide Go.Proofs.Try.prog W .any base t v := hval0
  have hW' := hW
  obtain ⟨p, q, hA0, hV, rfl, hfz, hnd⟩ := hW
  have hA : DataW.TrodAll enc Go.Proofs.Try.prog W 0 (fun _ => true) true Go.Proofs.Try.f11.params.toList args.toList ds p := hA0
  rw [Go.Proofs.Try.params11] at hA hval
  obtain ⟨v0, vs0, d0, ds0, p0, q0, hargs, rfl, rfl, h0, r0⟩ := trodAll_cons hA
  obtain ⟨rfl, rfl, rfl⟩ := trodAll_nil r0
  obtain rfl : args = #[v0] := by cases args; simp_all
  obtain ⟨rfl, rfl⟩ := trodVars_none hV
  obtain ⟨a0, len0, cap0, rfl⟩ := okWide_slice Go.Proofs.Try.underlying22 (hval 0 22 v0 rfl rfl)
  have k0 := h0
  have lt0 : ∀ x ∈ p0, x.block < W.heap.size := by obtain ⟨m, hm⟩ := k0; exact DataW.trod_lt m _ _ _ hm
  obtain ⟨z0, w0⟩ : ∃ zs, IsRow W a0 len0 cap0 zs := by
    obtain ⟨fuel, hf⟩ := h0
    rcases open_ints Go.Proofs.Try.underlying22 Go.Proofs.Try.underlying5 (by kernel_rfl) hf with ⟨hcs, _⟩ | ⟨x, l, c, zs, hcs, _, hl, hm, hz, _, hcell, hwz⟩
    · simp [Value.cells] at hcs
      obtain ⟨rfl, rfl, rfl⟩ := hcs
      exact ⟨[], .inl ⟨rfl, rfl, rfl, rfl⟩⟩
    · simp [Value.cells] at hcs
      obtain ⟨rfl, rfl, rfl⟩ := hcs
      exact ⟨zs, .inr ⟨_, rfl, hl, hm, by simpa using hz, hcell, hwz⟩⟩
  clear hA0 hval0 hsz0
  refine (walk a0 len0 cap0 z0 W w0).mono fun e W' ⟨he, bel⟩ => ?_
  subst he
  exact ⟨_, rfl, _, _, _, [], _, [], hW', trodAll_mk1 (shut_bool Go.Proofs.Try.underlying4 _), (trodAll_cons_mk (Below.trod laidOut (by kernel_rfl) (of_decide_eq_true (by kernel_rfl)) k0 bel lt0) trodAll_mk0), rfl, bel.frame _, fun h => by cases h⟩
theorem over : Rows.fnLogReplayReadRow.holds Try.pinned (OpenSpec.ofChange Rows.fnLogReplayReadSpec) :=
  OpenClaim.holds_of_wide 11 Go.Proofs.Try.f11 rfl rfl rfl rfl rfl rfl rfl ⟨rfl, rfl, rfl, rfl, rfl⟩ rfl rfl rfl rfl rfl (by kernel_rfl) Go.Proofs.Try.func11 (by kernel_rfl)
    (of_decide_eq_true (by kernel_rfl)) (by unfold Func.isWrapper; first | (rw [if_pos (by decide +kernel)]; kernel_rfl) | (rw [if_neg (by decide +kernel)]; exact ⟨rfl, rfl⟩))
    (fun os started H enc _ => lifted os started H enc)
theorem proved : Rows.FnLogReplayReadSaid := over
#print axioms proved
end Go.Proofs.Yteippbbcihgabaa.fnLogReplayRead
namespace Go.Proofs.Yteippbbcihgabaa
theorem fnLogReplayRead_holds : Rows.FnLogReplayReadSaid := fnLogReplayRead.proved
end Go.Proofs.Yteippbbcihgabaa

