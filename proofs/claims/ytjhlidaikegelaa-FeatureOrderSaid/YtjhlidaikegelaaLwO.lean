/-
  The statement FeatureOrder, proved for every input.
-/
import Derived.Test.YtjhlidaikegelaaFuE
import Derived.Test.YtjhlidaikegelaaAbs2
import Derived.ProofKit
namespace Go.Proofs.Ytjhlidaikegelaa
open Go Go.Abs Go.ChangeShapes Go.WideShapes Go.ChangeAt Go.RowKit
set_option maxRecDepth 100000
set_option linter.unusedSimpArgs false
set_option linter.unusedVariables false
theorem featureOrder_own : ownKnob Try.prog.godebug = none := by kernel_rfl
theorem featureOrder_closed : okS Try.prog [42, 37, 9, 3, 32, 30, 33, 46, 35, 4, 38, 51, 49, 40] = true := by kernel_rfl
theorem featureOrder_types : ∀ t ∈ Try.f6.params.toList, t ∈ [42, 37, 9, 3, 32, 30, 33, 46, 35, 4, 38, 51, 49, 40] ∧ Try.prog.readableRec t = true ∧ t < Try.prog.types.size := by
  have e : Try.f6.params.toList = [42, 3] := rfl
  rw [e]
  intro t ht
  simp at ht
  rcases ht with rfl | rfl
  · exact ⟨by simp, by kernel_rfl, by decide +kernel⟩
  · exact ⟨by simp, by kernel_rfl, by decide +kernel⟩
theorem featureOrder_lifted (os : Os) (started : os.Started) (H : Type) (enc : TypeId × Value → H) :
    ReturnsInHanded {} Try.checked os 6 .any (Rows.featureOrderSpec.pre6 enc Try.prog Try.f6 Rows.featureOrderRow.domain false) (Rows.featureOrderSpec.post enc Try.prog Try.f6 false true false false) := by
  refine returnsInHanded_of_change (C := Try.checked) featureOrder_own started (by kernel_rfl) Try.func6
    (ChangeSpec.witness6 (enc := enc) (C := Try.checked) false ⟨#[], #[.agg #[.string ByteArray.empty, .string ByteArray.empty, .string ByteArray.empty, .int .i64 0, .int .i64 0, .int .i64 0, .int .i64 0, .int .i64 0, .int .i64 0, .int .i64 0, .int .i64 0, .slice none 0 0, .int .i64 0, .int .i64 0, .int .i64 0, .int .i64 0, .bool false, .int .i64 0, .slice none 0 0, .string ByteArray.empty, .int .i64 0, .int .i64 0, .int .i64 0, .int .i64 0, .int .i64 0, .int .i64 0, .int .i64 0, .int .i64 0, .int .i64 0, .int .i64 0, .int .i64 0, .int .i64 0], .int .i64 0], []⟩ 8 (by kernel_rfl) (by kernel_rfl) (by kernel_rfl) (by kernel_rfl)) ?_
  intro W base args ds gs before hval0 hW hcnd _
  exact law_calls laid featureOrder_closed featureOrder_types Try.underlying4 rfl rfl (fun g cs h => by cases h) featureOrder_abs hval0 hW (fun l hl => by
    match l, hl with
    | [d1, d2], _ => rfl)
theorem featureOrder_holds : Rows.FeatureOrderSaid :=
  OpenClaim.holds_of_wide 6 Try.f6 rfl rfl rfl rfl rfl rfl rfl ⟨rfl, rfl, rfl, rfl, rfl⟩ rfl rfl rfl rfl rfl (by kernel_rfl) Try.func6 (by kernel_rfl)
    (of_decide_eq_true (by kernel_rfl)) (by unfold Func.isWrapper; first | (rw [if_pos (by decide +kernel)]; kernel_rfl) | (rw [if_neg (by decide +kernel)]; exact ⟨rfl, rfl⟩))
    (fun os started H enc _ => featureOrder_lifted os started H enc)
#print axioms featureOrder_holds
end Go.Proofs.Ytjhlidaikegelaa
