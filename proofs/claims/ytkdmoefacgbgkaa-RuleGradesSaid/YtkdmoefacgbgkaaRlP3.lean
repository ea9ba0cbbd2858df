/-
  The statement RuleGrades, proved for every input.
-/
import Derived.Test.YtkdmoefacgbgkaaRlU
import Derived.Test.YtkdmoefacgbgkaaAbsU
import Derived.ProofKit
namespace Go.Proofs.Ytkdmoefacgbgkaa
open Go Go.Abs Go.ChangeShapes Go.WideShapes Go.ChangeAt Go.RowKit
set_option maxRecDepth 100000
set_option linter.unusedSimpArgs false
set_option linter.unusedVariables false
theorem ruleGrades_own : ownKnob Try.prog.godebug = none := by kernel_rfl
theorem ruleGrades_closed : okS Try.prog [38, 49, 3, 24, 9, 22, 25, 46] = true := by kernel_rfl
theorem ruleGrades_types : ∀ t ∈ Try.f5.params.toList, t ∈ [38, 49, 3, 24, 9, 22, 25, 46] ∧ Try.prog.readableRec t = true ∧ t < Try.prog.types.size := by
  have e : Try.f5.params.toList = [38, 25] := rfl
  rw [e]
  intro t ht
  simp at ht
  rcases ht with rfl | rfl
  · exact ⟨by simp, by kernel_rfl, by decide +kernel⟩
  · exact ⟨by simp, by kernel_rfl, by decide +kernel⟩
theorem ruleGrades_lifted (os : Os) (started : os.Started) (H : Type) (enc : TypeId × Value → H) :
    ReturnsInHanded {} Try.checked os 5 .any (Rows.ruleGradesSpec.pre6 enc Try.prog Try.f5 Rows.ruleGradesRow.domain false) (Rows.ruleGradesSpec.post enc Try.prog Try.f5 false true false false) := by
  refine returnsInHanded_of_change (C := Try.checked) ruleGrades_own started (by kernel_rfl) Try.func5
    (ChangeSpec.witness6 (enc := enc) (C := Try.checked) false ⟨#[], #[.slice none 0 0, .slice none 0 0], []⟩ 8 (by kernel_rfl) (by kernel_rfl) (by kernel_rfl) (by kernel_rfl)) ?_
  intro W base args ds gs before hval0 hW hcnd _
  exact law_calls laid ruleGrades_closed ruleGrades_types Try.underlying4 rfl rfl (fun g cs h => by cases h) ruleGrades_abs hval0 hW (fun l hl => by
    match l, hl with
    | [d1, d2], _ => rfl)
theorem ruleGrades_holds : Rows.RuleGradesSaid :=
  OpenClaim.holds_of_wide 5 Try.f5 rfl rfl rfl rfl rfl rfl rfl ⟨rfl, rfl, rfl, rfl, rfl⟩ rfl rfl rfl rfl rfl (by kernel_rfl) Try.func5 (by kernel_rfl)
    (of_decide_eq_true (by kernel_rfl)) (by unfold Func.isWrapper; first | (rw [if_pos (by decide +kernel)]; kernel_rfl) | (rw [if_neg (by decide +kernel)]; exact ⟨rfl, rfl⟩))
    (fun os started H enc _ => ruleGrades_lifted os started H enc)
#print axioms ruleGrades_holds
end Go.Proofs.Ytkdmoefacgbgkaa
