/-
  The statement AirNexts, proved for every input.
-/
import Derived.Test.YtmnipfincjpofaaArT
import Derived.Test.YtmnipfincjpofaaAbsU
import Derived.ProofKit
namespace Go.Proofs.Ytmnipfincjpofaa
open Go Go.Abs Go.ChangeShapes Go.WideShapes Go.ChangeAt Go.RowKit
set_option maxRecDepth 100000
set_option linter.unusedSimpArgs false
set_option linter.unusedVariables false
theorem airNexts_own : ownKnob Try.prog.godebug = none := by kernel_rfl
theorem airNexts_closed : okS Try.prog [36, 30, 3, 22] = true := by kernel_rfl
theorem airNexts_types : ∀ t ∈ Try.f5.params.toList, t ∈ [36, 30, 3, 22] ∧ Try.prog.readableRec t = true ∧ t < Try.prog.types.size := by
  have e : Try.f5.params.toList = [36] := rfl
  rw [e]
  intro t ht
  simp at ht
  subst ht
  exact ⟨by simp, by kernel_rfl, by decide +kernel⟩
theorem airNexts_lifted (os : Os) (started : os.Started) (H : Type) (enc : TypeId × Value → H) :
    ReturnsInHanded {} Try.checked os 5 .any (Rows.airNextsSpec.pre6 enc Try.prog Try.f5 Rows.airNextsRow.domain false) (Rows.airNextsSpec.post enc Try.prog Try.f5 false true false false) := by
  refine returnsInHanded_of_change (C := Try.checked) airNexts_own started (by kernel_rfl) Try.func5
    (ChangeSpec.witness6 (enc := enc) (C := Try.checked) false ⟨#[], #[.agg #[.int .i64 0, .int .i64 0, .int .i64 0, .int .i64 0, .int .i64 0, .slice none 0 0]], []⟩ 8 (by kernel_rfl) (by kernel_rfl) (by kernel_rfl) (by kernel_rfl)) ?_
  intro W base args ds gs before hval0 hW hcnd _
  exact law_calls laid airNexts_closed airNexts_types Try.underlying4 rfl rfl airNexts_abs hval0 hW (fun l hl => by
    match l, hl with
    | [d1], _ => rfl)
theorem airNexts_holds : Rows.AirNextsSaid :=
  OpenClaim.holds_of_wide 5 Try.f5 rfl rfl rfl rfl rfl rfl rfl ⟨rfl, rfl, rfl, rfl, rfl⟩ rfl rfl rfl rfl rfl (by kernel_rfl) Try.func5 (by kernel_rfl)
    (of_decide_eq_true (by kernel_rfl)) (by unfold Func.isWrapper; first | (rw [if_pos (by decide +kernel)]; kernel_rfl) | (rw [if_neg (by decide +kernel)]; exact ⟨rfl, rfl⟩))
    (fun os started H enc _ => airNexts_lifted os started H enc)
#print axioms airNexts_holds
end Go.Proofs.Ytmnipfincjpofaa
