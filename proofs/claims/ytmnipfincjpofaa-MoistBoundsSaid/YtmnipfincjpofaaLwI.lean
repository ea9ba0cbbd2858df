/-
  The statement MoistBounds, proved for every input.
-/
import Derived.Test.YtmnipfincjpofaaMoT
import Derived.Test.YtmnipfincjpofaaAbsU
import Derived.ProofKit
namespace Go.Proofs.Ytmnipfincjpofaa
open Go Go.Abs Go.ChangeShapes Go.WideShapes Go.ChangeAt Go.RowKit
set_option maxRecDepth 100000
set_option linter.unusedSimpArgs false
set_option linter.unusedVariables false
theorem moistBounds_own : ownKnob Try.prog.godebug = none := by kernel_rfl
theorem moistBounds_closed : okS Try.prog [49, 45, 3, 47, 9, 30, 4] = true := by kernel_rfl
theorem moistBounds_types : ∀ t ∈ Try.f11.params.toList, t ∈ [49, 45, 3, 47, 9, 30, 4] ∧ Try.prog.readableRec t = true ∧ t < Try.prog.types.size := by
  have e : Try.f11.params.toList = [49] := rfl
  rw [e]
  intro t ht
  simp at ht
  subst ht
  exact ⟨by simp, by kernel_rfl, by decide +kernel⟩
theorem moistBounds_lifted (os : Os) (started : os.Started) (H : Type) (enc : TypeId × Value → H) :
    ReturnsInHanded {} Try.checked os 11 .any (Rows.moistBoundsSpec.pre6 enc Try.prog Try.f11 Rows.moistBoundsRow.domain false) (Rows.moistBoundsSpec.post enc Try.prog Try.f11 false true false false) := by
  refine returnsInHanded_of_change (C := Try.checked) moistBounds_own started (by kernel_rfl) Try.func11
    (ChangeSpec.witness6 (enc := enc) (C := Try.checked) false ⟨#[], #[.agg #[.int .i64 0, .int .i64 0, .int .i64 0, .string ByteArray.empty, .int .i64 0, .int .i64 0, .int .i64 0, .int .i64 0, .int .i64 0, .int .i64 0, .int .i64 0, .int .i64 0, .int .i64 0, .int .i64 0, .int .i64 0, .int .i64 0, .int .i64 0, .int .i64 0, .int .i64 0, .bool false]], []⟩ 8 (by kernel_rfl) (by kernel_rfl) (by kernel_rfl) (by kernel_rfl)) ?_
  intro W base args ds gs before hval0 hW hcnd _
  exact law_calls laid moistBounds_closed moistBounds_types Try.underlying4 rfl rfl moistBounds_abs hval0 hW (fun l hl => by
    match l, hl with
    | [d1], _ => rfl)
theorem moistBounds_holds : Rows.MoistBoundsSaid :=
  OpenClaim.holds_of_wide 11 Try.f11 rfl rfl rfl rfl rfl rfl rfl ⟨rfl, rfl, rfl, rfl, rfl⟩ rfl rfl rfl rfl rfl (by kernel_rfl) Try.func11 (by kernel_rfl)
    (of_decide_eq_true (by kernel_rfl)) (by unfold Func.isWrapper; first | (rw [if_pos (by decide +kernel)]; kernel_rfl) | (rw [if_neg (by decide +kernel)]; exact ⟨rfl, rfl⟩))
    (fun os started H enc _ => moistBounds_lifted os started H enc)
#print axioms moistBounds_holds
end Go.Proofs.Ytmnipfincjpofaa
