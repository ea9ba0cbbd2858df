/-
  The statement FeatureCounts, proved for every input.
-/
import Derived.Test.YtjhlidaikegelaaFuD
import Derived.Test.YtjhlidaikegelaaAbs2
import Derived.ProofKit
namespace Go.Proofs.Ytjhlidaikegelaa
open Go Go.Abs Go.ChangeShapes Go.WideShapes Go.ChangeAt Go.RowKit
set_option maxRecDepth 100000
set_option linter.unusedSimpArgs false
set_option linter.unusedVariables false
theorem featureCounts_own : ownKnob Try.prog.godebug = none := by kernel_rfl
theorem featureCounts_closed : okS Try.prog [42, 37, 9, 3, 32, 30, 33, 46, 35, 4, 38, 51, 49, 40] = true := by kernel_rfl
theorem featureCounts_types : ∀ t ∈ Try.f4.params.toList, t ∈ [42, 37, 9, 3, 32, 30, 33, 46, 35, 4, 38, 51, 49, 40] ∧ Try.prog.readableRec t = true ∧ t < Try.prog.types.size := by
  have e : Try.f4.params.toList = [42] := rfl
  rw [e]
  intro t ht
  simp at ht
  subst ht
  exact ⟨by simp, by kernel_rfl, by decide +kernel⟩
theorem featureCounts_lifted (os : Os) (started : os.Started) (H : Type) (enc : TypeId × Value → H) :
    ReturnsInHanded {} Try.checked os 4 .any (Rows.featureCountsSpec.pre6 enc Try.prog Try.f4 Rows.featureCountsRow.domain false) (Rows.featureCountsSpec.post enc Try.prog Try.f4 false true false false) := by
  refine returnsInHanded_of_change (C := Try.checked) featureCounts_own started (by kernel_rfl) Try.func4
    (ChangeSpec.witness6 (enc := enc) (C := Try.checked) false ⟨#[], #[.agg #[.string ByteArray.empty, .string ByteArray.empty, .string ByteArray.empty, .int .i64 0, .int .i64 0, .int .i64 0, .int .i64 0, .int .i64 0, .int .i64 0, .int .i64 0, .int .i64 0, .slice none 0 0, .int .i64 0, .int .i64 0, .int .i64 0, .int .i64 0, .bool false, .int .i64 0, .slice none 0 0, .string ByteArray.empty, .int .i64 0, .int .i64 0, .int .i64 0, .int .i64 0, .int .i64 0, .int .i64 0, .int .i64 0, .int .i64 0, .int .i64 0, .int .i64 0, .int .i64 0, .int .i64 0]], []⟩ 8 (by kernel_rfl) (by kernel_rfl) (by kernel_rfl) (by kernel_rfl)) ?_
  intro W base args ds gs before hval0 hW hcnd _
  exact law_calls laid featureCounts_closed featureCounts_types Try.underlying4 rfl rfl (fun g cs h => by cases h) featureCounts_abs hval0 hW (fun l hl => by
    match l, hl with
    | [d1], _ => rfl)
theorem featureCounts_holds : Rows.FeatureCountsSaid :=
  OpenClaim.holds_of_wide 4 Try.f4 rfl rfl rfl rfl rfl rfl rfl ⟨rfl, rfl, rfl, rfl, rfl⟩ rfl rfl rfl rfl rfl (by kernel_rfl) Try.func4 (by kernel_rfl)
    (of_decide_eq_true (by kernel_rfl)) (by unfold Func.isWrapper; first | (rw [if_pos (by decide +kernel)]; kernel_rfl) | (rw [if_neg (by decide +kernel)]; exact ⟨rfl, rfl⟩))
    (fun os started H enc _ => featureCounts_lifted os started H enc)
#print axioms featureCounts_holds
end Go.Proofs.Ytjhlidaikegelaa
