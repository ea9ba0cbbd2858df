/-
  The statement MoistThick, proved for every input.
-/
import Derived.Test.YtmnipfincjpofaaMoT
import Derived.Test.YtmnipfincjpofaaAbsU
import Derived.ProofKit
namespace Go.Proofs.Ytmnipfincjpofaa
open Go Go.Abs Go.ChangeShapes Go.WideShapes Go.ChangeAt Go.RowKit
set_option maxRecDepth 100000
set_option linter.unusedSimpArgs false
set_option linter.unusedVariables false
theorem moistThick_own : ownKnob Try.prog.godebug = none := by kernel_rfl
theorem moistThick_closed : okS Try.prog [49, 45, 3, 47, 9, 30, 4] = true := by kernel_rfl
theorem moistThick_types : ∀ t ∈ Try.f13.params.toList, t ∈ [49, 45, 3, 47, 9, 30, 4] ∧ Try.prog.readableRec t = true ∧ t < Try.prog.types.size := by
  have e : Try.f13.params.toList = [49, 3] := rfl
  rw [e]
  intro t ht
  simp at ht
  rcases ht with rfl | rfl
  · exact ⟨by simp, by kernel_rfl, by decide +kernel⟩
  · exact ⟨by simp, by kernel_rfl, by decide +kernel⟩
theorem moistThick_lifted (os : Os) (started : os.Started) (H : Type) (enc : TypeId × Value → H) :
    ReturnsInHanded {} Try.checked os 13 .any (Rows.moistThickSpec.pre6 enc Try.prog Try.f13 Rows.moistThickRow.domain false) (Rows.moistThickSpec.post enc Try.prog Try.f13 false true false false) := by
  refine returnsInHanded_of_change (C := Try.checked) moistThick_own started (by kernel_rfl) Try.func13
    (ChangeSpec.witness6 (enc := enc) (C := Try.checked) false ⟨#[], #[.agg #[.int .i64 0, .int .i64 0, .int .i64 0, .string ByteArray.empty, .int .i64 0, .int .i64 0, .int .i64 0, .int .i64 0, .int .i64 0, .int .i64 0, .int .i64 0, .int .i64 0, .int .i64 0, .int .i64 0, .int .i64 0, .int .i64 0, .int .i64 0, .int .i64 0, .int .i64 0, .bool false], .int .i64 0], []⟩ 8 (by kernel_rfl) (by kernel_rfl) (by kernel_rfl) (by kernel_rfl)) ?_
  intro W base args ds gs before hval0 hW hcnd _
  exact law_calls laid moistThick_closed moistThick_types Try.underlying4 rfl rfl moistThick_abs hval0 hW (fun l hl => by
    match l, hl with
    | [d1, d2], _ => rfl)
theorem moistThick_holds : Rows.MoistThickSaid :=
  OpenClaim.holds_of_wide 13 Try.f13 rfl rfl rfl rfl rfl rfl rfl ⟨rfl, rfl, rfl, rfl, rfl⟩ rfl rfl rfl rfl rfl (by kernel_rfl) Try.func13 (by kernel_rfl)
    (of_decide_eq_true (by kernel_rfl)) (by unfold Func.isWrapper; first | (rw [if_pos (by decide +kernel)]; kernel_rfl) | (rw [if_neg (by decide +kernel)]; exact ⟨rfl, rfl⟩))
    (fun os started H enc _ => moistThick_lifted os started H enc)
#print axioms moistThick_holds
end Go.Proofs.Ytmnipfincjpofaa
