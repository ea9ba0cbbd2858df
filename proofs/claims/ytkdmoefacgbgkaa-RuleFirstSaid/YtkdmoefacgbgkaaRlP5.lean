/-
  The statement RuleFirst, proved for every input.
-/
import Derived.Test.YtkdmoefacgbgkaaRlV
import Derived.Test.YtkdmoefacgbgkaaAbsU
import Derived.ProofKit
namespace Go.Proofs.Ytkdmoefacgbgkaa
open Go Go.Abs Go.ChangeShapes Go.WideShapes Go.ChangeAt Go.RowKit
set_option maxRecDepth 100000
set_option linter.unusedSimpArgs false
set_option linter.unusedVariables false
theorem ruleFirst_own : ownKnob Try.prog.godebug = none := by kernel_rfl
theorem ruleFirst_closed : okS Try.prog [38, 49, 3, 24, 9, 22, 25, 46] = true := by kernel_rfl
theorem ruleFirst_types : ∀ t ∈ Try.f8.params.toList, t ∈ [38, 49, 3, 24, 9, 22, 25, 46] ∧ Try.prog.readableRec t = true ∧ t < Try.prog.types.size := by
  have e : Try.f8.params.toList = [38, 25] := rfl
  rw [e]
  intro t ht
  simp at ht
  rcases ht with rfl | rfl
  · exact ⟨by simp, by kernel_rfl, by decide +kernel⟩
  · exact ⟨by simp, by kernel_rfl, by decide +kernel⟩
theorem ruleFirst_lifted (os : Os) (started : os.Started) (H : Type) (enc : TypeId × Value → H) :
    ReturnsInHanded {} Try.checked os 8 .any (Rows.ruleFirstSpec.pre6 enc Try.prog Try.f8 Rows.ruleFirstRow.domain false) (Rows.ruleFirstSpec.post enc Try.prog Try.f8 false true false false) := by
  refine returnsInHanded_of_change (C := Try.checked) ruleFirst_own started (by kernel_rfl) Try.func8
    (ChangeSpec.witness6 (enc := enc) (C := Try.checked) false ⟨#[], #[.slice none 0 0, .slice none 0 0], []⟩ 8 (by kernel_rfl) (by kernel_rfl) (by kernel_rfl) (by kernel_rfl)) ?_
  intro W base args ds gs before hval0 hW hcnd _
  exact law_calls laid ruleFirst_closed ruleFirst_types Try.underlying4 rfl rfl (fun g cs h => by cases h) ruleFirst_abs hval0 hW (fun l hl => by
    match l, hl with
    | [d1, d2], _ => rfl)
theorem ruleFirst_holds : Rows.RuleFirstSaid :=
  OpenClaim.holds_of_wide 8 Try.f8 rfl rfl rfl rfl rfl rfl rfl ⟨rfl, rfl, rfl, rfl, rfl⟩ rfl rfl rfl rfl rfl (by kernel_rfl) Try.func8 (by kernel_rfl)
    (of_decide_eq_true (by kernel_rfl)) (by unfold Func.isWrapper; first | (rw [if_pos (by decide +kernel)]; kernel_rfl) | (rw [if_neg (by decide +kernel)]; exact ⟨rfl, rfl⟩))
    (fun os started H enc _ => ruleFirst_lifted os started H enc)
#print axioms ruleFirst_holds
end Go.Proofs.Ytkdmoefacgbgkaa
