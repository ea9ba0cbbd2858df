/-
  The statement FeatureOfs, proved for every input.
-/
import Derived.Test.YtjhlidaikegelaaGreatFvB
import Derived.Test.YtjhlidaikegelaaGreatAbs2
import Derived.ProofKit
namespace Go.Proofs.YtjhlidaikegelaaGreat
open Go Go.Abs Go.ChangeShapes Go.WideShapes Go.ChangeAt Go.RowKit
set_option maxRecDepth 100000
set_option linter.unusedSimpArgs false
set_option linter.unusedVariables false
theorem featureOfs_own : ownKnob Tryz.prog.godebug = none := by kernel_rfl
theorem featureOfs_closed : okS Tryz.prog [35, 30, 9, 3, 25, 23, 26, 67, 28, 4, 31, 58, 56, 33] = true := by kernel_rfl
theorem featureOfs_types : ∀ t ∈ Tryz.f3.params.toList, t ∈ [35, 30, 9, 3, 25, 23, 26, 67, 28, 4, 31, 58, 56, 33] ∧ Tryz.prog.readableRec t = true ∧ t < Tryz.prog.types.size := by
  have e : Tryz.f3.params.toList = [35] := rfl
  rw [e]
  intro t ht
  simp at ht
  subst ht
  exact ⟨by simp, by kernel_rfl, by decide +kernel⟩
theorem featureOfs_lifted (os : Os) (started : os.Started) (H : Type) (enc : TypeId × Value → H) :
    ReturnsInHanded {} Tryz.checked os 3 .any (Rows.featureOfsSpec.pre6 enc Tryz.prog Tryz.f3 Rows.featureOfsRow.domain false) (Rows.featureOfsSpec.post enc Tryz.prog Tryz.f3 false true false false) := by
  refine returnsInHanded_of_change (C := Tryz.checked) featureOfs_own started (by kernel_rfl) Tryz.func3
    (ChangeSpec.witness6 (enc := enc) (C := Tryz.checked) false ⟨#[], #[.agg #[.string ByteArray.empty, .string ByteArray.empty, .string ByteArray.empty, .int .i64 0, .int .i64 0, .int .i64 0, .int .i64 0, .int .i64 0, .int .i64 0, .int .i64 0, .int .i64 0, .slice none 0 0, .int .i64 0, .int .i64 0, .int .i64 0, .int .i64 0, .bool false, .int .i64 0, .slice none 0 0, .string ByteArray.empty, .int .i64 0, .int .i64 0, .int .i64 0, .int .i64 0, .int .i64 0, .int .i64 0, .int .i64 0, .int .i64 0, .int .i64 0, .int .i64 0, .int .i64 0, .int .i64 0]], []⟩ 8 (by kernel_rfl) (by kernel_rfl) (by kernel_rfl) (by kernel_rfl)) ?_
  intro W base args ds gs before hval0 hW hcnd _
  exact law_calls laid featureOfs_closed featureOfs_types Tryz.underlying4 rfl rfl (fun g cs h => by cases h) featureOfs_abs hval0 hW (fun l hl => by
    match l, hl with
    | [d1], _ => rfl)
theorem featureOfs_holds : Rows.FeatureOfsSaid :=
  OpenClaim.holds_of_wide 3 Tryz.f3 rfl rfl rfl rfl rfl rfl rfl ⟨rfl, rfl, rfl, rfl, rfl⟩ rfl rfl rfl rfl rfl (by kernel_rfl) Tryz.func3 (by kernel_rfl)
    (of_decide_eq_true (by kernel_rfl)) (by unfold Func.isWrapper; first | (rw [if_pos (by decide +kernel)]; kernel_rfl) | (rw [if_neg (by decide +kernel)]; exact ⟨rfl, rfl⟩))
    (fun os started H enc _ => featureOfs_lifted os started H enc)
#print axioms featureOfs_holds
end Go.Proofs.YtjhlidaikegelaaGreat
