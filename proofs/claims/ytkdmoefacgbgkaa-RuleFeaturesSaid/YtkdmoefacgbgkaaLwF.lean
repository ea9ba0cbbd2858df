/-
  The statement RuleFeatures, proved for every input.
-/
import Derived.Test.YtkdmoefacgbgkaaRlX
import Derived.Test.YtkdmoefacgbgkaaAbs2
import Derived.ProofKit
namespace Go.Proofs.Ytkdmoefacgbgkaa
open Go Go.Abs Go.ChangeShapes Go.WideShapes Go.ChangeAt Go.RowKit
set_option maxRecDepth 100000
set_option linter.unusedSimpArgs false
set_option linter.unusedVariables false
theorem ruleFeatures_own : ownKnob Try.prog.godebug = none := by kernel_rfl
theorem ruleFeatures_closed : okS Try.prog [24, 3, 9, 22, 25, 46] = true := by kernel_rfl
theorem ruleFeatures_types : ∀ t ∈ Try.f7.params.toList, t ∈ [24, 3, 9, 22, 25, 46] ∧ Try.prog.readableRec t = true ∧ t < Try.prog.types.size := by
  have e : Try.f7.params.toList = [24, 25, 46] := rfl
  rw [e]
  intro t ht
  simp at ht
  rcases ht with rfl | rfl | rfl
  · exact ⟨by simp, by kernel_rfl, by decide +kernel⟩
  · exact ⟨by simp, by kernel_rfl, by decide +kernel⟩
  · exact ⟨by simp, by kernel_rfl, by decide +kernel⟩
theorem ruleFeatures_lifted (os : Os) (started : os.Started) (H : Type) (enc : TypeId × Value → H) :
    ReturnsInHanded {} Try.checked os 7 .any (Rows.ruleFeaturesSpec.pre6 enc Try.prog Try.f7 Rows.ruleFeaturesRow.domain false) (Rows.ruleFeaturesSpec.post enc Try.prog Try.f7 false true false false) := by
  refine returnsInHanded_of_change (C := Try.checked) ruleFeatures_own started (by kernel_rfl) Try.func7
    (ChangeSpec.witness6 (enc := enc) (C := Try.checked) false ⟨#[], #[.agg #[.int .i64 0, .int .i64 0, .string ByteArray.empty, .slice none 0 0], .slice none 0 0, .agg #[.string ByteArray.empty, .int .i64 0]], []⟩ 8 (by kernel_rfl) (by kernel_rfl) (by kernel_rfl) (by kernel_rfl)) ?_
  intro W base args ds gs before hval0 hW hcnd _
  exact law_calls laid ruleFeatures_closed ruleFeatures_types Try.underlying4 rfl rfl (fun g cs h => by cases h) ruleFeatures_abs hval0 hW (fun l hl => by
    match l, hl with
    | [d1, d2, d3], _ => rfl)
theorem ruleFeatures_holds : Rows.RuleFeaturesSaid :=
  OpenClaim.holds_of_wide 7 Try.f7 rfl rfl rfl rfl rfl rfl rfl ⟨rfl, rfl, rfl, rfl, rfl⟩ rfl rfl rfl rfl rfl (by kernel_rfl) Try.func7 (by kernel_rfl)
    (of_decide_eq_true (by kernel_rfl)) (by unfold Func.isWrapper; first | (rw [if_pos (by decide +kernel)]; kernel_rfl) | (rw [if_neg (by decide +kernel)]; exact ⟨rfl, rfl⟩))
    (fun os started H enc _ => ruleFeatures_lifted os started H enc)
#print axioms ruleFeatures_holds
end Go.Proofs.Ytkdmoefacgbgkaa
