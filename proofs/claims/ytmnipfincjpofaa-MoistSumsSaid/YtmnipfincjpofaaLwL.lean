/-
  The statement MoistSums, proved for every input.
-/
import Derived.Test.YtmnipfincjpofaaMoU
import Derived.Test.YtmnipfincjpofaaAbsU
import Derived.ProofKit
namespace Go.Proofs.Ytmnipfincjpofaa
open Go Go.Abs Go.ChangeShapes Go.WideShapes Go.ChangeAt Go.RowKit
set_option maxRecDepth 100000
set_option linter.unusedSimpArgs false
set_option linter.unusedVariables false
theorem moistSums_own : ownKnob Try.prog.godebug = none := by kernel_rfl
theorem moistSums_closed : okS Try.prog [49, 45, 3, 47, 9, 30, 4] = true := by kernel_rfl
theorem moistSums_types : ∀ t ∈ Try.f14.params.toList, t ∈ [49, 45, 3, 47, 9, 30, 4] ∧ Try.prog.readableRec t = true ∧ t < Try.prog.types.size := by
  have e : Try.f14.params.toList = [49] := rfl
  rw [e]
  intro t ht
  simp at ht
  subst ht
  exact ⟨by simp, by kernel_rfl, by decide +kernel⟩
theorem moistSums_lifted (os : Os) (started : os.Started) (H : Type) (enc : TypeId × Value → H) :
    ReturnsInHanded {} Try.checked os 14 .any (Rows.moistSumsSpec.pre6 enc Try.prog Try.f14 Rows.moistSumsRow.domain false) (Rows.moistSumsSpec.post enc Try.prog Try.f14 false true false false) := by
  refine returnsInHanded_of_change (C := Try.checked) moistSums_own started (by kernel_rfl) Try.func14
    (ChangeSpec.witness6 (enc := enc) (C := Try.checked) false ⟨#[], #[.agg #[.int .i64 0, .int .i64 0, .int .i64 0, .string ByteArray.empty, .int .i64 0, .int .i64 0, .int .i64 0, .int .i64 0, .int .i64 0, .int .i64 0, .int .i64 0, .int .i64 0, .int .i64 0, .int .i64 0, .int .i64 0, .int .i64 0, .int .i64 0, .int .i64 0, .int .i64 0, .bool false]], []⟩ 8 (by kernel_rfl) (by kernel_rfl) (by kernel_rfl) (by kernel_rfl)) ?_
  intro W base args ds gs before hval0 hW hcnd _
  exact law_calls laid moistSums_closed moistSums_types Try.underlying4 rfl rfl moistSums_abs hval0 hW (fun l hl => by
    match l, hl with
    | [d1], _ => rfl)
theorem moistSums_holds : Rows.MoistSumsSaid :=
  OpenClaim.holds_of_wide 14 Try.f14 rfl rfl rfl rfl rfl rfl rfl ⟨rfl, rfl, rfl, rfl, rfl⟩ rfl rfl rfl rfl rfl (by kernel_rfl) Try.func14 (by kernel_rfl)
    (of_decide_eq_true (by kernel_rfl)) (by unfold Func.isWrapper; first | (rw [if_pos (by decide +kernel)]; kernel_rfl) | (rw [if_neg (by decide +kernel)]; exact ⟨rfl, rfl⟩))
    (fun os started H enc _ => moistSums_lifted os started H enc)
#print axioms moistSums_holds
end Go.Proofs.Ytmnipfincjpofaa
