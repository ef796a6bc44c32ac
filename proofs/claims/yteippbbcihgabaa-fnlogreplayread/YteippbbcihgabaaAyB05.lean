/- A symbolic executor over the model, plain words, and contracts of the program's functions, part 5. Conditions: as each theorem tells. -/
import Derived.Test.YteippbbcihgabaaAyB03
import Derived.Laws.StructEq
import Derived.ChangeKeysEq
import Derived.Test.YteippbbcihgabaaProg
set_option linter.unusedVariables false
set_option linter.unusedSimpArgs false
set_option linter.unusedSectionVars false
namespace Go.Proofs.AYT
open Go Go.Proofs.AY Go.RowKit
def ti3 : TI := { size := 1, bytes := 8, agg := false, zero := [.int .i64 0], elem := 0, offs := [], fsz := [], ik := some .i64 }
theorem ti3_ok : TIOk Go.Proofs.Try.prog 3 ti3 := tiOne ti3 (.int .i64 0) _ Go.Proofs.Try.underlying3 (by kernel_rfl) rfl rfl rfl rfl rfl rfl
def ti4 : TI := { size := 1, bytes := 1, agg := false, zero := [.bool false], elem := 0, offs := [], fsz := [], bool := true }
theorem ti4_ok : TIOk Go.Proofs.Try.prog 4 ti4 := tiOne ti4 (.bool false) _ Go.Proofs.Try.underlying4 (by kernel_rfl) rfl rfl rfl rfl rfl rfl
def ti5 : TI := { size := 1, bytes := 1, agg := false, zero := [.int .u8 0], elem := 0, offs := [], fsz := [], ik := some .u8 }
theorem ti5_ok : TIOk Go.Proofs.Try.prog 5 ti5 := tiOne ti5 (.int .u8 0) _ Go.Proofs.Try.underlying5 (by kernel_rfl) rfl rfl rfl rfl rfl rfl
def ti22 : TI := { size := 1, bytes := 24, agg := false, zero := [.slice none 0 0], elem := 5, offs := [], fsz := [] }
theorem ti22_ok : TIOk Go.Proofs.Try.prog 22 ti22 := tiOne ti22 (.slice none 0 0) _ Go.Proofs.Try.underlying22 (by kernel_rfl) rfl rfl rfl rfl rfl rfl
def ti23 : TI := { size := 1, bytes := 24, agg := false, zero := [.slice none 0 0], elem := 33, offs := [], fsz := [] }
theorem ti23_ok : TIOk Go.Proofs.Try.prog 23 ti23 := tiOne ti23 (.slice none 0 0) _ Go.Proofs.Try.underlying23 (by kernel_rfl) rfl rfl rfl rfl rfl rfl
def ti24 : TI := { size := 1, bytes := 24, agg := false, zero := [.slice none 0 0], elem := 49, offs := [], fsz := [] }
theorem ti24_ok : TIOk Go.Proofs.Try.prog 24 ti24 := tiOne ti24 (.slice none 0 0) _ Go.Proofs.Try.underlying24 (by kernel_rfl) rfl rfl rfl rfl rfl rfl
def ti25 : TI := { size := 1, bytes := 24, agg := false, zero := [.slice none 0 0], elem := 40, offs := [], fsz := [] }
theorem ti25_ok : TIOk Go.Proofs.Try.prog 25 ti25 := tiOne ti25 (.slice none 0 0) _ Go.Proofs.Try.underlying25 (by kernel_rfl) rfl rfl rfl rfl rfl rfl
def ti27 : TI := { size := 4, bytes := 80, agg := true, zero := [.slice none 0 0, .slice none 0 0, .int .i64 0, .slice none 0 0], elem := 0, offs := [0, 1, 2, 3], fsz := [1, 1, 1, 1] }
theorem ti27_ok : TIOk Go.Proofs.Try.prog 27 ti27 := tiAgg ti27 #[.slice none 0 0, .slice none 0 0, .int .i64 0, .slice none 0 0] _ Go.Proofs.Try.underlying27 (by kernel_rfl) rfl rfl rfl (by kernel_rfl) rfl rfl rfl rfl rfl (by simp [ti27]) rfl rfl
def ti29 : TI := { size := 1, bytes := 24, agg := false, zero := [.slice none 0 0], elem := 3, offs := [], fsz := [] }
theorem ti29_ok : TIOk Go.Proofs.Try.prog 29 ti29 := tiOne ti29 (.slice none 0 0) _ Go.Proofs.Try.underlying29 (by kernel_rfl) rfl rfl rfl rfl rfl rfl
def ti33 : TI := { size := 3, bytes := 24, agg := true, zero := [.int .i64 0, .int .i64 0, .int .i64 0], elem := 0, offs := [0, 1, 2], fsz := [1, 1, 1] }
theorem ti33_ok : TIOk Go.Proofs.Try.prog 33 ti33 := tiAgg ti33 #[.int .i64 0, .int .i64 0, .int .i64 0] _ Go.Proofs.Try.underlying33 (by kernel_rfl) rfl rfl rfl (by kernel_rfl) rfl rfl rfl rfl rfl (by simp [ti33]) rfl rfl
def ti38 : TI := { size := 1, bytes := 24, agg := false, zero := [.slice none 0 0], elem := 51, offs := [], fsz := [] }
theorem ti38_ok : TIOk Go.Proofs.Try.prog 38 ti38 := tiOne ti38 (.slice none 0 0) _ Go.Proofs.Try.underlying38 (by kernel_rfl) rfl rfl rfl rfl rfl rfl
def ti40 : TI := { size := 6, bytes := 80, agg := true, zero := [.int .i64 0, .int .i64 0, .int .i64 0, .slice none 0 0, .slice none 0 0, .int .i64 0], elem := 0, offs := [0, 1, 2, 3, 4, 5], fsz := [1, 1, 1, 1, 1, 1] }
theorem ti40_ok : TIOk Go.Proofs.Try.prog 40 ti40 := tiAgg ti40 #[.int .i64 0, .int .i64 0, .int .i64 0, .slice none 0 0, .slice none 0 0, .int .i64 0] _ Go.Proofs.Try.underlying40 (by kernel_rfl) rfl rfl rfl (by kernel_rfl) rfl rfl rfl rfl rfl (by simp [ti40]) rfl rfl
def ti42 : TI := { size := 1, bytes := 24, agg := false, zero := [.slice none 0 0], elem := 95, offs := [], fsz := [] }
theorem ti42_ok : TIOk Go.Proofs.Try.prog 42 ti42 := tiOne ti42 (.slice none 0 0) _ Go.Proofs.Try.underlying42 (by kernel_rfl) rfl rfl rfl rfl rfl rfl
def ti44 : TI := { size := 2, bytes := 48, agg := true, zero := [.slice none 0 0, .slice none 0 0], elem := 0, offs := [0, 1], fsz := [1, 1] }
theorem ti44_ok : TIOk Go.Proofs.Try.prog 44 ti44 := tiAgg ti44 #[.slice none 0 0, .slice none 0 0] _ Go.Proofs.Try.underlying44 (by kernel_rfl) rfl rfl rfl (by kernel_rfl) rfl rfl rfl rfl rfl (by simp [ti44]) rfl rfl
def ti49 : TI := { size := 13, bytes := 168, agg := true, zero := [.int .i64 0, .int .i64 0, .int .i64 0, .slice none 0 0, .int .i64 0, .int .i64 0, .int .i64 0, .int .i64 0, .slice none 0 0, .slice none 0 0, .slice none 0 0, .int .i64 0, .int .i64 0], elem := 0, offs := [0, 1, 2, 3, 4, 5, 6, 7, 8, 9, 10, 11, 12], fsz := [1, 1, 1, 1, 1, 1, 1, 1, 1, 1, 1, 1, 1] }
theorem ti49_ok : TIOk Go.Proofs.Try.prog 49 ti49 := tiAgg ti49 #[.int .i64 0, .int .i64 0, .int .i64 0, .slice none 0 0, .int .i64 0, .int .i64 0, .int .i64 0, .int .i64 0, .slice none 0 0, .slice none 0 0, .slice none 0 0, .int .i64 0, .int .i64 0] _ Go.Proofs.Try.underlying49 (by kernel_rfl) rfl rfl rfl (by kernel_rfl) rfl rfl rfl rfl rfl (by simp [ti49]) rfl rfl
def ti51 : TI := { size := 2, bytes := 16, agg := true, zero := [.int .i64 0, .int .i64 0], elem := 0, offs := [0, 1], fsz := [1, 1], cmp := true }
theorem cmp51 : CmpOk Go.Proofs.Try.prog 51 2 := by
  intro xs ys w op x y hx hy
  obtain ⟨a, b, rfl⟩ : ∃ a b, xs = [a, b] := by
    rcases xs with _ | ⟨a, _ | ⟨b, _ | ⟨c, l⟩⟩⟩ <;> simp at hx
    exact ⟨a, b, rfl⟩
  obtain ⟨c, d, rfl⟩ : ∃ a b, ys = [a, b] := by
    rcases ys with _ | ⟨a, _ | ⟨b, _ | ⟨c, l⟩⟩⟩ <;> simp at hy
    exact ⟨a, b, rfl⟩
  have hs : Go.Proofs.Try.prog.stoodInHeld 51 = false := by kernel_rfl
  have hg : Go.Proofs.Try.prog.eqGuardType Go.Proofs.Try.prog.depth 51 = false := by kernel_rfl
  have ht : Go.Proofs.Try.prog.underlying 51 = some (.struct (Go.Proofs.Try.prog.fieldsOf 51)) := by kernel_rfl
  have he : (Op.equalIn 10000 51 (.agg (([a, b].map (Value.int .i64)).toArray)) (.agg (([c, d].map (Value.int .i64)).toArray))).run Go.Proofs.Try.prog w = .ok (decide ([a, b] = [c, d])) w := by
    rw [run_equalIn_agg w 9999 51 _ _ ht hs]
    have hf : (Go.Proofs.Try.prog.fieldsOf 51).toList = [{ name := "Cell", type := 3, offset := 0, embedded := false, tag := "", pkgPath := "", byteOffset := 0 }, { name := "Num", type := 3, offset := 1, embedded := false, tag := "", pkgPath := "", byteOffset := 8 }] := by kernel_rfl
    have hk : Go.Proofs.Try.prog.plainKey 3 = true := by kernel_rfl
    have hi : ∀ (d : Nat) (a b : Int) (w : World), (Op.equalIn (d + 1) 3 (.int .i64 a) (.int .i64 b)).run Go.Proofs.Try.prog w = .ok (a == b) w := fun d a b w => run_equalIn_int w d 3 .i64 .i64 a b Go.Proofs.Try.underlying3
    rw [hf]
    have p1 := run_part_plain w hk (xs := ([a, b].map (Value.int .i64)).toArray) (off := 0) (v := .int .i64 a) rfl
    have p2 := run_part_plain w hk (xs := ([c, d].map (Value.int .i64)).toArray) (off := 0) (v := .int .i64 c) rfl
    have p3 := run_part_plain w hk (xs := ([a, b].map (Value.int .i64)).toArray) (off := 1) (v := .int .i64 b) rfl
    have p4 := run_part_plain w hk (xs := ([c, d].map (Value.int .i64)).toArray) (off := 1) (v := .int .i64 d) rfl
    simp only [Op.eqFields]
    rw [if_pos (by decide), if_pos (by decide)]
    simp only [Sem.run_bind, p1, p2, Result.andThen_ok, hi 9998]
    by_cases h1 : a = c
    · subst h1
      simp only [BEq.rfl, Bool.not_true, Bool.false_eq_true, if_false, Sem.run_bind, p3, p4, Result.andThen_ok, hi 9998]
      by_cases h2 : b = d
      · subst h2; simp
      · have e : (b == d) = false := by simpa using h2
        simp [e, h2]
    · have e : (a == c) = false := by simpa using h1
      simp [e, h1]
  refine ⟨run_eqGuard_agg w op 51 x y _ _ hg, ?_, ?_⟩
  · rw [run_eql_struct, he]; rfl
  · rw [run_neq_struct, he]; rfl
theorem ti51_ok : TIOk Go.Proofs.Try.prog 51 ti51 := tiAggC ti51 #[.int .i64 0, .int .i64 0] _ Go.Proofs.Try.underlying51 (by kernel_rfl) rfl rfl rfl (by kernel_rfl) rfl rfl rfl rfl rfl (by simp [ti51]) rfl rfl (fun _ => cmp51)
def ti69 : TI := { size := 1, bytes := 8, agg := false, zero := [.pointer none], elem := 0, offs := [], fsz := [] }
theorem ti69_ok : TIOk Go.Proofs.Try.prog 69 ti69 := tiOne ti69 (.pointer none) _ Go.Proofs.Try.underlying69 (by kernel_rfl) rfl rfl rfl rfl rfl rfl
def ti94 : TI := { size := 2, bytes := 32, agg := true, zero := [.slice none 0 0, .int .i64 0], elem := 0, offs := [0, 1], fsz := [1, 1] }
theorem ti94_ok : TIOk Go.Proofs.Try.prog 94 ti94 := tiAgg ti94 #[.slice none 0 0, .int .i64 0] _ Go.Proofs.Try.underlying94 (by kernel_rfl) rfl rfl rfl (by kernel_rfl) rfl rfl rfl rfl rfl (by simp [ti94]) rfl rfl
def ti95 : TI := { size := 1, bytes := 24, agg := false, zero := [.slice none 0 0], elem := 99, offs := [], fsz := [] }
theorem ti95_ok : TIOk Go.Proofs.Try.prog 95 ti95 := tiOne ti95 (.slice none 0 0) _ Go.Proofs.Try.underlying95 (by kernel_rfl) rfl rfl rfl rfl rfl rfl
def ti97 : TI := { size := 1, bytes := 24, agg := false, zero := [.slice none 0 0], elem := 102, offs := [], fsz := [] }
theorem ti97_ok : TIOk Go.Proofs.Try.prog 97 ti97 := tiOne ti97 (.slice none 0 0) _ Go.Proofs.Try.underlying97 (by kernel_rfl) rfl rfl rfl rfl rfl rfl
def ti99 : TI := { size := 4, bytes := 64, agg := true, zero := [.int .i64 0, .slice none 0 0, .slice none 0 0, .int .i64 0], elem := 0, offs := [0, 1, 2, 3], fsz := [1, 1, 1, 1] }
theorem ti99_ok : TIOk Go.Proofs.Try.prog 99 ti99 := tiAgg ti99 #[.int .i64 0, .slice none 0 0, .slice none 0 0, .int .i64 0] _ Go.Proofs.Try.underlying99 (by kernel_rfl) rfl rfl rfl (by kernel_rfl) rfl rfl rfl rfl rfl (by simp [ti99]) rfl rfl
def ti102 : TI := { size := 3, bytes := 24, agg := true, zero := [.int .i64 0, .int .i64 0, .int .i64 0], elem := 0, offs := [0, 1, 2], fsz := [1, 1, 1] }
theorem ti102_ok : TIOk Go.Proofs.Try.prog 102 ti102 := tiAgg ti102 #[.int .i64 0, .int .i64 0, .int .i64 0] _ Go.Proofs.Try.underlying102 (by kernel_rfl) rfl rfl rfl (by kernel_rfl) rfl rfl rfl rfl rfl (by simp [ti102]) rfl rfl
def ti118 : TI := { size := 1, bytes := 8, agg := false, zero := [.pointer none], elem := 0, offs := [], fsz := [] }
theorem ti118_ok : TIOk Go.Proofs.Try.prog 118 ti118 := tiOne ti118 (.pointer none) _ Go.Proofs.Try.underlying118 (by kernel_rfl) rfl rfl rfl rfl rfl rfl
def ti120 : TI := { size := 6, bytes := 128, agg := true, zero := [.slice none 0 0, .slice none 0 0, .slice none 0 0, .slice none 0 0, .int .i64 0, .slice none 0 0], elem := 0, offs := [0, 2], fsz := [2, 4] }
theorem ti120_ok : TIOk Go.Proofs.Try.prog 120 ti120 := tiAgg ti120 #[.slice none 0 0, .slice none 0 0, .slice none 0 0, .slice none 0 0, .int .i64 0, .slice none 0 0] _ Go.Proofs.Try.underlying120 (by kernel_rfl) rfl rfl rfl (by kernel_rfl) rfl rfl rfl rfl rfl (by simp [ti120]) rfl rfl
def ti141 : TI := { size := 1, bytes := 8, agg := false, zero := [.int .u64 0], elem := 0, offs := [], fsz := [], ik := some .u64 }
theorem ti141_ok : TIOk Go.Proofs.Try.prog 141 ti141 := tiOne ti141 (.int .u64 0) _ Go.Proofs.Try.underlying141 (by kernel_rfl) rfl rfl rfl rfl rfl rfl
def tab : List (Nat × TI) := [(3, ti3), (4, ti4), (5, ti5), (22, ti22), (23, ti23), (24, ti24), (25, ti25), (27, ti27), (29, ti29), (33, ti33), (38, ti38), (40, ti40), (42, ti42), (44, ti44), (49, ti49), (51, ti51), (69, ti69), (94, ti94), (95, ti95), (97, ti97), (99, ti99), (102, ti102), (118, ti118), (120, ti120), (141, ti141)]
theorem tab_ok : TOk Go.Proofs.Try.prog (ttGet tab) := TabOk.ok (⟨ti3_ok, ti4_ok, ti5_ok, ti22_ok, ti23_ok, ti24_ok, ti25_ok, ti27_ok, ti29_ok, ti33_ok, ti38_ok, ti40_ok, ti42_ok, ti44_ok, ti49_ok, ti51_ok, ti69_ok, ti94_ok, ti95_ok, ti97_ok, ti99_ok, ti102_ok, ti118_ok, ti120_ok, ti141_ok, trivial⟩)
end Go.Proofs.AYT
