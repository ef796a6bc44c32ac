/-
  No cell of these rows narrows 'for every input' (looked for: loops, veiled, ifaces, maps, wideKeys, modest, calm, conditions, laid).
  DERIVED. THE GIVEN ROWS OF THIS SEAT. 14 by the template 'for every input the law returns true; each argument reads behind the call as it read before'; 0 by the template 'total and deterministic' (their statements: YteippbbcihgabaaTotals.lean).
  GIVEN WITH THE SEED: the statements are not yours to turn. If you find one false, say at which input.
  Laid BY PROGRAM, IN A SANDBOX (cutbox-rows.mjs): the forced cells as the released guide's own fill.sh prints them over the translation 5161ddd1d6305fc8… (all of the seat's roots in one cut). By AI agents, Wed Nov 11 2026. No macro, syntax, notation, axiom, sorry.
-/
import Derived.Test.YteippbbcihgabaaChecked
import GoSem.Claim
import GoSem.ClaimJoined
import GoSem.ClaimMapViews
import Derived.JoinedTies
import Derived.KernelRfl
namespace Go.Proofs.Yteippbbcihgabaa
/- THE CELL 'sum', in the pinned program and in every row, IS THE sha256 OF THE DUMP (.gsa) THAT YteippbbcihgabaaProg.lean LOADS. Nothing in Lean hashes anything: it is a label: what it is worth is what the hold of that sum in a sandbox is worth. -/
noncomputable def Try.pinned : Pinned := { name := "yteippbbcihgabaa", sum := "5161ddd1d6305fc843fb03e2704d64d1dfeb1cfd69ee42bea8340df9987f251f", checked := Try.checked }
namespace Rows
def none {H : Type} : Left H := { results := [], args := [] }

/-- 'laws.FnSysNums': WHATEVER THE INPUT: true; the input reads as it did. -/
def fnSysNumsSpec : ChangeSpec := { name := "fnSysNums", fn := fun _ => fun
  | [d] => { results := [.lit (.bool true)], args := [d] }
  | _ => none }
def fnSysNumsRow : OpenClaim := { program := "yteippbbcihgabaa", sum := "5161ddd1d6305fc843fb03e2704d64d1dfeb1cfd69ee42bea8340df9987f251f", func := "loop.example/equerry/laws.FnSysNums", spec := "fnSysNums", recurses := true, apart := false }
def FnSysNumsSaid : Prop := fnSysNumsRow.holds Try.pinned (OpenSpec.ofChange fnSysNumsSpec)

/-- ITS FALSE NEIGHBOUR: 'it returns false'. Refute it at one input. -/
def fnSysNumsWrong : ChangeSpec := { name := "fnSysNums", fn := fun _ => fun
  | [d] => { results := [.lit (.bool false)], args := [d] }
  | _ => none }
def FnSysNumsWrongFalsely : Prop := fnSysNumsRow.holds Try.pinned (OpenSpec.ofChange fnSysNumsWrong)

/-- 'laws.FnLogRealCut': WHATEVER THE INPUT: true; the input reads as it did. -/
def fnLogRealCutSpec : ChangeSpec := { name := "fnLogRealCut", fn := fun _ => fun
  | [d1, d2] => { results := [.lit (.bool true)], args := [d1, d2] }
  | _ => none }
def fnLogRealCutRow : OpenClaim := { program := "yteippbbcihgabaa", sum := "5161ddd1d6305fc843fb03e2704d64d1dfeb1cfd69ee42bea8340df9987f251f", func := "loop.example/equerry/laws.FnLogRealCut", spec := "fnLogRealCut", recurses := true, apart := false }
def FnLogRealCutSaid : Prop := fnLogRealCutRow.holds Try.pinned (OpenSpec.ofChange fnLogRealCutSpec)

/-- ITS FALSE NEIGHBOUR: 'it returns false'. Refute it at one input. -/
def fnLogRealCutWrong : ChangeSpec := { name := "fnLogRealCut", fn := fun _ => fun
  | [d1, d2] => { results := [.lit (.bool false)], args := [d1, d2] }
  | _ => none }
def FnLogRealCutWrongFalsely : Prop := fnLogRealCutRow.holds Try.pinned (OpenSpec.ofChange fnLogRealCutWrong)

/-- 'laws.FnLogReal': WHATEVER THE INPUT: true; the input reads as it did. -/
def fnLogRealSpec : ChangeSpec := { name := "fnLogReal", fn := fun _ => fun
  | [d] => { results := [.lit (.bool true)], args := [d] }
  | _ => none }
def fnLogRealRow : OpenClaim := { program := "yteippbbcihgabaa", sum := "5161ddd1d6305fc843fb03e2704d64d1dfeb1cfd69ee42bea8340df9987f251f", func := "loop.example/equerry/laws.FnLogReal", spec := "fnLogReal", recurses := true, apart := false }
def FnLogRealSaid : Prop := fnLogRealRow.holds Try.pinned (OpenSpec.ofChange fnLogRealSpec)

/-- ITS FALSE NEIGHBOUR: 'it returns false'. Refute it at one input. -/
def fnLogRealWrong : ChangeSpec := { name := "fnLogReal", fn := fun _ => fun
  | [d] => { results := [.lit (.bool false)], args := [d] }
  | _ => none }
def FnLogRealWrongFalsely : Prop := fnLogRealRow.holds Try.pinned (OpenSpec.ofChange fnLogRealWrong)

/-- 'laws.FnSysHeldFew': WHATEVER THE INPUT: true; the input reads as it did. -/
def fnSysHeldFewSpec : ChangeSpec := { name := "fnSysHeldFew", fn := fun _ => fun
  | [d] => { results := [.lit (.bool true)], args := [d] }
  | _ => none }
def fnSysHeldFewRow : OpenClaim := { program := "yteippbbcihgabaa", sum := "5161ddd1d6305fc843fb03e2704d64d1dfeb1cfd69ee42bea8340df9987f251f", func := "loop.example/equerry/laws.FnSysHeldFew", spec := "fnSysHeldFew", recurses := true, apart := false }
def FnSysHeldFewSaid : Prop := fnSysHeldFewRow.holds Try.pinned (OpenSpec.ofChange fnSysHeldFewSpec)

/-- ITS FALSE NEIGHBOUR: 'it returns false'. Refute it at one input. -/
def fnSysHeldFewWrong : ChangeSpec := { name := "fnSysHeldFew", fn := fun _ => fun
  | [d] => { results := [.lit (.bool false)], args := [d] }
  | _ => none }
def FnSysHeldFewWrongFalsely : Prop := fnSysHeldFewRow.holds Try.pinned (OpenSpec.ofChange fnSysHeldFewWrong)

/-- 'laws.FnSysHeld': WHATEVER THE INPUT: true; the input reads as it did. -/
def fnSysHeldSpec : ChangeSpec := { name := "fnSysHeld", fn := fun _ => fun
  | [d] => { results := [.lit (.bool true)], args := [d] }
  | _ => none }
def fnSysHeldRow : OpenClaim := { program := "yteippbbcihgabaa", sum := "5161ddd1d6305fc843fb03e2704d64d1dfeb1cfd69ee42bea8340df9987f251f", func := "loop.example/equerry/laws.FnSysHeld", spec := "fnSysHeld", recurses := true, apart := false }
def FnSysHeldSaid : Prop := fnSysHeldRow.holds Try.pinned (OpenSpec.ofChange fnSysHeldSpec)

/-- ITS FALSE NEIGHBOUR: 'it returns false'. Refute it at one input. -/
def fnSysHeldWrong : ChangeSpec := { name := "fnSysHeld", fn := fun _ => fun
  | [d] => { results := [.lit (.bool false)], args := [d] }
  | _ => none }
def FnSysHeldWrongFalsely : Prop := fnSysHeldRow.holds Try.pinned (OpenSpec.ofChange fnSysHeldWrong)

/-- 'laws.FnLogTask': WHATEVER THE INPUT: true; the input reads as it did. -/
def fnLogTaskSpec : ChangeSpec := { name := "fnLogTask", fn := fun _ => fun
  | [d] => { results := [.lit (.bool true)], args := [d] }
  | _ => none }
def fnLogTaskRow : OpenClaim := { program := "yteippbbcihgabaa", sum := "5161ddd1d6305fc843fb03e2704d64d1dfeb1cfd69ee42bea8340df9987f251f", func := "loop.example/equerry/laws.FnLogTask", spec := "fnLogTask", recurses := true, apart := false }
def FnLogTaskSaid : Prop := fnLogTaskRow.holds Try.pinned (OpenSpec.ofChange fnLogTaskSpec)

/-- ITS FALSE NEIGHBOUR: 'it returns false'. Refute it at one input. -/
def fnLogTaskWrong : ChangeSpec := { name := "fnLogTask", fn := fun _ => fun
  | [d] => { results := [.lit (.bool false)], args := [d] }
  | _ => none }
def FnLogTaskWrongFalsely : Prop := fnLogTaskRow.holds Try.pinned (OpenSpec.ofChange fnLogTaskWrong)

/-- 'laws.FnLogReplayCut': WHATEVER THE INPUT: true; the input reads as it did. -/
def fnLogReplayCutSpec : ChangeSpec := { name := "fnLogReplayCut", fn := fun _ => fun
  | [d1, d2] => { results := [.lit (.bool true)], args := [d1, d2] }
  | _ => none }
def fnLogReplayCutRow : OpenClaim := { program := "yteippbbcihgabaa", sum := "5161ddd1d6305fc843fb03e2704d64d1dfeb1cfd69ee42bea8340df9987f251f", func := "loop.example/equerry/laws.FnLogReplayCut", spec := "fnLogReplayCut", recurses := true, apart := false }
def FnLogReplayCutSaid : Prop := fnLogReplayCutRow.holds Try.pinned (OpenSpec.ofChange fnLogReplayCutSpec)

/-- ITS FALSE NEIGHBOUR: 'it returns false'. Refute it at one input. -/
def fnLogReplayCutWrong : ChangeSpec := { name := "fnLogReplayCut", fn := fun _ => fun
  | [d1, d2] => { results := [.lit (.bool false)], args := [d1, d2] }
  | _ => none }
def FnLogReplayCutWrongFalsely : Prop := fnLogReplayCutRow.holds Try.pinned (OpenSpec.ofChange fnLogReplayCutWrong)

/-- 'laws.FnLogReplayNone': WHATEVER THE INPUT: true; the input reads as it did. -/
def fnLogReplayNoneSpec : ChangeSpec := { name := "fnLogReplayNone", fn := fun _ => fun
  | [d] => { results := [.lit (.bool true)], args := [d] }
  | _ => none }
def fnLogReplayNoneRow : OpenClaim := { program := "yteippbbcihgabaa", sum := "5161ddd1d6305fc843fb03e2704d64d1dfeb1cfd69ee42bea8340df9987f251f", func := "loop.example/equerry/laws.FnLogReplayNone", spec := "fnLogReplayNone", recurses := true, apart := false }
def FnLogReplayNoneSaid : Prop := fnLogReplayNoneRow.holds Try.pinned (OpenSpec.ofChange fnLogReplayNoneSpec)

/-- ITS FALSE NEIGHBOUR: 'it returns false'. Refute it at one input. -/
def fnLogReplayNoneWrong : ChangeSpec := { name := "fnLogReplayNone", fn := fun _ => fun
  | [d] => { results := [.lit (.bool false)], args := [d] }
  | _ => none }
def FnLogReplayNoneWrongFalsely : Prop := fnLogReplayNoneRow.holds Try.pinned (OpenSpec.ofChange fnLogReplayNoneWrong)

/-- 'laws.FnLogReplayRead': WHATEVER THE INPUT: true; the input reads as it did. -/
def fnLogReplayReadSpec : ChangeSpec := { name := "fnLogReplayRead", fn := fun _ => fun
  | [d] => { results := [.lit (.bool true)], args := [d] }
  | _ => none }
def fnLogReplayReadRow : OpenClaim := { program := "yteippbbcihgabaa", sum := "5161ddd1d6305fc843fb03e2704d64d1dfeb1cfd69ee42bea8340df9987f251f", func := "loop.example/equerry/laws.FnLogReplayRead", spec := "fnLogReplayRead", recurses := true, apart := false }
def FnLogReplayReadSaid : Prop := fnLogReplayReadRow.holds Try.pinned (OpenSpec.ofChange fnLogReplayReadSpec)

/-- ITS FALSE NEIGHBOUR: 'it returns false'. Refute it at one input. -/
def fnLogReplayReadWrong : ChangeSpec := { name := "fnLogReplayRead", fn := fun _ => fun
  | [d] => { results := [.lit (.bool false)], args := [d] }
  | _ => none }
def FnLogReplayReadWrongFalsely : Prop := fnLogReplayReadRow.holds Try.pinned (OpenSpec.ofChange fnLogReplayReadWrong)

/-- 'laws.FnLogOrderCut': WHATEVER THE INPUT: true; the input reads as it did. -/
def fnLogOrderCutSpec : ChangeSpec := { name := "fnLogOrderCut", fn := fun _ => fun
  | [d1, d2] => { results := [.lit (.bool true)], args := [d1, d2] }
  | _ => none }
def fnLogOrderCutRow : OpenClaim := { program := "yteippbbcihgabaa", sum := "5161ddd1d6305fc843fb03e2704d64d1dfeb1cfd69ee42bea8340df9987f251f", func := "loop.example/equerry/laws.FnLogOrderCut", spec := "fnLogOrderCut", unfollowed := true, recurses := true, apart := false }
def FnLogOrderCutSaid : Prop := fnLogOrderCutRow.holds Try.pinned (OpenSpec.ofChange fnLogOrderCutSpec)

/-- ITS FALSE NEIGHBOUR: 'it returns false'. Refute it at one input. -/
def fnLogOrderCutWrong : ChangeSpec := { name := "fnLogOrderCut", fn := fun _ => fun
  | [d1, d2] => { results := [.lit (.bool false)], args := [d1, d2] }
  | _ => none }
def FnLogOrderCutWrongFalsely : Prop := fnLogOrderCutRow.holds Try.pinned (OpenSpec.ofChange fnLogOrderCutWrong)

/-- 'laws.FnLogLast': WHATEVER THE INPUT: true; the input reads as it did. -/
def fnLogLastSpec : ChangeSpec := { name := "fnLogLast", fn := fun _ => fun
  | [d] => { results := [.lit (.bool true)], args := [d] }
  | _ => none }
def fnLogLastRow : OpenClaim := { program := "yteippbbcihgabaa", sum := "5161ddd1d6305fc843fb03e2704d64d1dfeb1cfd69ee42bea8340df9987f251f", func := "loop.example/equerry/laws.FnLogLast", spec := "fnLogLast", unfollowed := true, recurses := true, apart := false }
def FnLogLastSaid : Prop := fnLogLastRow.holds Try.pinned (OpenSpec.ofChange fnLogLastSpec)

/-- ITS FALSE NEIGHBOUR: 'it returns false'. Refute it at one input. -/
def fnLogLastWrong : ChangeSpec := { name := "fnLogLast", fn := fun _ => fun
  | [d] => { results := [.lit (.bool false)], args := [d] }
  | _ => none }
def FnLogLastWrongFalsely : Prop := fnLogLastRow.holds Try.pinned (OpenSpec.ofChange fnLogLastWrong)

/-- 'laws.FnLogOrder': WHATEVER THE INPUT: true; the input reads as it did. -/
def fnLogOrderSpec : ChangeSpec := { name := "fnLogOrder", fn := fun _ => fun
  | [d] => { results := [.lit (.bool true)], args := [d] }
  | _ => none }
def fnLogOrderRow : OpenClaim := { program := "yteippbbcihgabaa", sum := "5161ddd1d6305fc843fb03e2704d64d1dfeb1cfd69ee42bea8340df9987f251f", func := "loop.example/equerry/laws.FnLogOrder", spec := "fnLogOrder", unfollowed := true, recurses := true, apart := false }
def FnLogOrderSaid : Prop := fnLogOrderRow.holds Try.pinned (OpenSpec.ofChange fnLogOrderSpec)

/-- ITS FALSE NEIGHBOUR: 'it returns false'. Refute it at one input. -/
def fnLogOrderWrong : ChangeSpec := { name := "fnLogOrder", fn := fun _ => fun
  | [d] => { results := [.lit (.bool false)], args := [d] }
  | _ => none }
def FnLogOrderWrongFalsely : Prop := fnLogOrderRow.holds Try.pinned (OpenSpec.ofChange fnLogOrderWrong)

/-- 'laws.FnLogSeen': WHATEVER THE INPUT: true; the input reads as it did. -/
def fnLogSeenSpec : ChangeSpec := { name := "fnLogSeen", fn := fun _ => fun
  | [d] => { results := [.lit (.bool true)], args := [d] }
  | _ => none }
def fnLogSeenRow : OpenClaim := { program := "yteippbbcihgabaa", sum := "5161ddd1d6305fc843fb03e2704d64d1dfeb1cfd69ee42bea8340df9987f251f", func := "loop.example/equerry/laws.FnLogSeen", spec := "fnLogSeen", unfollowed := true, recurses := true, apart := false }
def FnLogSeenSaid : Prop := fnLogSeenRow.holds Try.pinned (OpenSpec.ofChange fnLogSeenSpec)

/-- ITS FALSE NEIGHBOUR: 'it returns false'. Refute it at one input. -/
def fnLogSeenWrong : ChangeSpec := { name := "fnLogSeen", fn := fun _ => fun
  | [d] => { results := [.lit (.bool false)], args := [d] }
  | _ => none }
def FnLogSeenWrongFalsely : Prop := fnLogSeenRow.holds Try.pinned (OpenSpec.ofChange fnLogSeenWrong)

/-- 'laws.FnLogSeenMore': WHATEVER THE INPUT: true; the input reads as it did. -/
def fnLogSeenMoreSpec : ChangeSpec := { name := "fnLogSeenMore", fn := fun _ => fun
  | [d] => { results := [.lit (.bool true)], args := [d] }
  | _ => none }
def fnLogSeenMoreRow : OpenClaim := { program := "yteippbbcihgabaa", sum := "5161ddd1d6305fc843fb03e2704d64d1dfeb1cfd69ee42bea8340df9987f251f", func := "loop.example/equerry/laws.FnLogSeenMore", spec := "fnLogSeenMore", unfollowed := true, recurses := true, apart := false }
def FnLogSeenMoreSaid : Prop := fnLogSeenMoreRow.holds Try.pinned (OpenSpec.ofChange fnLogSeenMoreSpec)

/-- ITS FALSE NEIGHBOUR: 'it returns false'. Refute it at one input. -/
def fnLogSeenMoreWrong : ChangeSpec := { name := "fnLogSeenMore", fn := fun _ => fun
  | [d] => { results := [.lit (.bool false)], args := [d] }
  | _ => none }
def FnLogSeenMoreWrongFalsely : Prop := fnLogSeenMoreRow.holds Try.pinned (OpenSpec.ofChange fnLogSeenMoreWrong)

/- THE SECOND FORM. 'bulk': how many values and letters a reading holds, each counted each time it is reached (what is shared counts as often as it is met; a slice's spare places count too). A statement '..UptoSaid' is the law's where the arguments, and the package variables that the reading takes, are together of bulk at most 1048576: NARROWER than '..Said'. Prove '..Said' where nothing that the law and all that it calls make is longer than what came in: it says more and counts as full. Else prove '..UptoSaid'. A law counts once. -/
mutual
def uptoBulk {H : Type} : DataW H → Nat
  | .lit (.string bytes) => bytes.length + 1
  | .lit _ => 1
  | .nil => 1
  | .ptr d => uptoBulk d + 1
  | .slice elems spare => uptoBulkAll elems + uptoBulkAll spare + 1
  | .agg parts => uptoBulkAll parts + 1
  | .iface _ d => uptoBulk d + 1
  | .map entries => uptoBulkEntries entries + 1
  | .held _ => 1
def uptoBulkAll {H : Type} : List (DataW H) → Nat
  | [] => 0
  | d :: r => uptoBulk d + uptoBulkAll r
def uptoBulkEntries {H : Type} : List (Lit × DataW H) → Nat
  | [] => 0
  | x :: r => uptoBulkEntry x + uptoBulkEntries r
def uptoBulkEntry {H : Type} : Lit × DataW H → Nat
  | (.string bytes, d) => bytes.length + uptoBulk d + 1
  | (_, d) => uptoBulk d + 1
 end
def uptoSmall : (H : Type) → List (DataW H) → Bool := fun _ ds => decide (uptoBulkAll ds ≤ 1048576)
def OpenSpec.upto (s : _root_.Go.ChangeSpec) : _root_.Go.OpenSpec := { _root_.Go.OpenSpec.ofChange s with cond := some uptoSmall }

/-- 'laws.FnSysNums', WHERE WHAT IT READS IS OF BULK AT MOST 1048576: true; the input reads as it did. -/
def fnSysNumsUptoRow : OpenClaim := { program := "yteippbbcihgabaa", sum := "5161ddd1d6305fc843fb03e2704d64d1dfeb1cfd69ee42bea8340df9987f251f", func := "loop.example/equerry/laws.FnSysNums", spec := "fnSysNums", recurses := true, apart := false, narrowed := true }
def FnSysNumsUptoSaid : Prop := fnSysNumsUptoRow.holds Try.pinned (OpenSpec.upto fnSysNumsSpec)

/-- 'laws.FnLogRealCut', WHERE WHAT IT READS IS OF BULK AT MOST 1048576: true; the input reads as it did. -/
def fnLogRealCutUptoRow : OpenClaim := { program := "yteippbbcihgabaa", sum := "5161ddd1d6305fc843fb03e2704d64d1dfeb1cfd69ee42bea8340df9987f251f", func := "loop.example/equerry/laws.FnLogRealCut", spec := "fnLogRealCut", recurses := true, apart := false, narrowed := true }
def FnLogRealCutUptoSaid : Prop := fnLogRealCutUptoRow.holds Try.pinned (OpenSpec.upto fnLogRealCutSpec)

/-- 'laws.FnLogReal', WHERE WHAT IT READS IS OF BULK AT MOST 1048576: true; the input reads as it did. -/
def fnLogRealUptoRow : OpenClaim := { program := "yteippbbcihgabaa", sum := "5161ddd1d6305fc843fb03e2704d64d1dfeb1cfd69ee42bea8340df9987f251f", func := "loop.example/equerry/laws.FnLogReal", spec := "fnLogReal", recurses := true, apart := false, narrowed := true }
def FnLogRealUptoSaid : Prop := fnLogRealUptoRow.holds Try.pinned (OpenSpec.upto fnLogRealSpec)

/-- 'laws.FnSysHeldFew', WHERE WHAT IT READS IS OF BULK AT MOST 1048576: true; the input reads as it did. -/
def fnSysHeldFewUptoRow : OpenClaim := { program := "yteippbbcihgabaa", sum := "5161ddd1d6305fc843fb03e2704d64d1dfeb1cfd69ee42bea8340df9987f251f", func := "loop.example/equerry/laws.FnSysHeldFew", spec := "fnSysHeldFew", recurses := true, apart := false, narrowed := true }
def FnSysHeldFewUptoSaid : Prop := fnSysHeldFewUptoRow.holds Try.pinned (OpenSpec.upto fnSysHeldFewSpec)

/-- 'laws.FnSysHeld', WHERE WHAT IT READS IS OF BULK AT MOST 1048576: true; the input reads as it did. -/
def fnSysHeldUptoRow : OpenClaim := { program := "yteippbbcihgabaa", sum := "5161ddd1d6305fc843fb03e2704d64d1dfeb1cfd69ee42bea8340df9987f251f", func := "loop.example/equerry/laws.FnSysHeld", spec := "fnSysHeld", recurses := true, apart := false, narrowed := true }
def FnSysHeldUptoSaid : Prop := fnSysHeldUptoRow.holds Try.pinned (OpenSpec.upto fnSysHeldSpec)

/-- 'laws.FnLogTask', WHERE WHAT IT READS IS OF BULK AT MOST 1048576: true; the input reads as it did. -/
def fnLogTaskUptoRow : OpenClaim := { program := "yteippbbcihgabaa", sum := "5161ddd1d6305fc843fb03e2704d64d1dfeb1cfd69ee42bea8340df9987f251f", func := "loop.example/equerry/laws.FnLogTask", spec := "fnLogTask", recurses := true, apart := false, narrowed := true }
def FnLogTaskUptoSaid : Prop := fnLogTaskUptoRow.holds Try.pinned (OpenSpec.upto fnLogTaskSpec)

/-- 'laws.FnLogReplayCut', WHERE WHAT IT READS IS OF BULK AT MOST 1048576: true; the input reads as it did. -/
def fnLogReplayCutUptoRow : OpenClaim := { program := "yteippbbcihgabaa", sum := "5161ddd1d6305fc843fb03e2704d64d1dfeb1cfd69ee42bea8340df9987f251f", func := "loop.example/equerry/laws.FnLogReplayCut", spec := "fnLogReplayCut", recurses := true, apart := false, narrowed := true }
def FnLogReplayCutUptoSaid : Prop := fnLogReplayCutUptoRow.holds Try.pinned (OpenSpec.upto fnLogReplayCutSpec)

/-- 'laws.FnLogReplayNone', WHERE WHAT IT READS IS OF BULK AT MOST 1048576: true; the input reads as it did. -/
def fnLogReplayNoneUptoRow : OpenClaim := { program := "yteippbbcihgabaa", sum := "5161ddd1d6305fc843fb03e2704d64d1dfeb1cfd69ee42bea8340df9987f251f", func := "loop.example/equerry/laws.FnLogReplayNone", spec := "fnLogReplayNone", recurses := true, apart := false, narrowed := true }
def FnLogReplayNoneUptoSaid : Prop := fnLogReplayNoneUptoRow.holds Try.pinned (OpenSpec.upto fnLogReplayNoneSpec)

/-- 'laws.FnLogReplayRead', WHERE WHAT IT READS IS OF BULK AT MOST 1048576: true; the input reads as it did. -/
def fnLogReplayReadUptoRow : OpenClaim := { program := "yteippbbcihgabaa", sum := "5161ddd1d6305fc843fb03e2704d64d1dfeb1cfd69ee42bea8340df9987f251f", func := "loop.example/equerry/laws.FnLogReplayRead", spec := "fnLogReplayRead", recurses := true, apart := false, narrowed := true }
def FnLogReplayReadUptoSaid : Prop := fnLogReplayReadUptoRow.holds Try.pinned (OpenSpec.upto fnLogReplayReadSpec)

/-- 'laws.FnLogOrderCut', WHERE WHAT IT READS IS OF BULK AT MOST 1048576: true; the input reads as it did. -/
def fnLogOrderCutUptoRow : OpenClaim := { program := "yteippbbcihgabaa", sum := "5161ddd1d6305fc843fb03e2704d64d1dfeb1cfd69ee42bea8340df9987f251f", func := "loop.example/equerry/laws.FnLogOrderCut", spec := "fnLogOrderCut", unfollowed := true, recurses := true, apart := false, narrowed := true }
def FnLogOrderCutUptoSaid : Prop := fnLogOrderCutUptoRow.holds Try.pinned (OpenSpec.upto fnLogOrderCutSpec)

/-- 'laws.FnLogLast', WHERE WHAT IT READS IS OF BULK AT MOST 1048576: true; the input reads as it did. -/
def fnLogLastUptoRow : OpenClaim := { program := "yteippbbcihgabaa", sum := "5161ddd1d6305fc843fb03e2704d64d1dfeb1cfd69ee42bea8340df9987f251f", func := "loop.example/equerry/laws.FnLogLast", spec := "fnLogLast", unfollowed := true, recurses := true, apart := false, narrowed := true }
def FnLogLastUptoSaid : Prop := fnLogLastUptoRow.holds Try.pinned (OpenSpec.upto fnLogLastSpec)

/-- 'laws.FnLogOrder', WHERE WHAT IT READS IS OF BULK AT MOST 1048576: true; the input reads as it did. -/
def fnLogOrderUptoRow : OpenClaim := { program := "yteippbbcihgabaa", sum := "5161ddd1d6305fc843fb03e2704d64d1dfeb1cfd69ee42bea8340df9987f251f", func := "loop.example/equerry/laws.FnLogOrder", spec := "fnLogOrder", unfollowed := true, recurses := true, apart := false, narrowed := true }
def FnLogOrderUptoSaid : Prop := fnLogOrderUptoRow.holds Try.pinned (OpenSpec.upto fnLogOrderSpec)

/-- 'laws.FnLogSeen', WHERE WHAT IT READS IS OF BULK AT MOST 1048576: true; the input reads as it did. -/
def fnLogSeenUptoRow : OpenClaim := { program := "yteippbbcihgabaa", sum := "5161ddd1d6305fc843fb03e2704d64d1dfeb1cfd69ee42bea8340df9987f251f", func := "loop.example/equerry/laws.FnLogSeen", spec := "fnLogSeen", unfollowed := true, recurses := true, apart := false, narrowed := true }
def FnLogSeenUptoSaid : Prop := fnLogSeenUptoRow.holds Try.pinned (OpenSpec.upto fnLogSeenSpec)

/-- 'laws.FnLogSeenMore', WHERE WHAT IT READS IS OF BULK AT MOST 1048576: true; the input reads as it did. -/
def fnLogSeenMoreUptoRow : OpenClaim := { program := "yteippbbcihgabaa", sum := "5161ddd1d6305fc843fb03e2704d64d1dfeb1cfd69ee42bea8340df9987f251f", func := "loop.example/equerry/laws.FnLogSeenMore", spec := "fnLogSeenMore", unfollowed := true, recurses := true, apart := false, narrowed := true }
def FnLogSeenMoreUptoSaid : Prop := fnLogSeenMoreUptoRow.holds Try.pinned (OpenSpec.upto fnLogSeenMoreSpec)

end Rows
end Go.Proofs.Yteippbbcihgabaa
