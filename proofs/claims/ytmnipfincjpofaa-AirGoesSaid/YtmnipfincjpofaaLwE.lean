/-
  The statement AirGoes, proved for every input.
-/
import Derived.Test.YtmnipfincjpofaaArT
import Derived.Test.YtmnipfincjpofaaAbsU
import Derived.ProofKit
namespace Go.Proofs.Ytmnipfincjpofaa
open Go Go.Abs Go.ChangeShapes Go.WideShapes Go.ChangeAt Go.RowKit
set_option maxRecDepth 100000
set_option linter.unusedSimpArgs false
set_option linter.unusedVariables false
theorem airGoes_own : ownKnob Try.prog.godebug = none := by kernel_rfl
theorem airGoes_closed : okS Try.prog [36, 30, 3, 22] = true := by kernel_rfl
theorem airGoes_types : ∀ t ∈ Try.f7.params.toList, t ∈ [36, 30, 3, 22] ∧ Try.prog.readableRec t = true ∧ t < Try.prog.types.size := by
  have e : Try.f7.params.toList = [36] := rfl
  rw [e]
  intro t ht
  simp at ht
  subst ht
  exact ⟨by simp, by kernel_rfl, by decide +kernel⟩
theorem airGoes_lifted (os : Os) (started : os.Started) (H : Type) (enc : TypeId × Value → H) :
    ReturnsInHanded {} Try.checked os 7 .any (Rows.airGoesSpec.pre6 enc Try.prog Try.f7 Rows.airGoesRow.domain false) (Rows.airGoesSpec.post enc Try.prog Try.f7 false true false false) := by
  refine returnsInHanded_of_change (C := Try.checked) airGoes_own started (by kernel_rfl) Try.func7
    (ChangeSpec.witness6 (enc := enc) (C := Try.checked) false ⟨#[], #[.agg #[.int .i64 0, .int .i64 0, .int .i64 0, .int .i64 0, .int .i64 0, .slice none 0 0]], []⟩ 8 (by kernel_rfl) (by kernel_rfl) (by kernel_rfl) (by kernel_rfl)) ?_
  intro W base args ds gs before hval0 hW hcnd _
  exact law_calls laid airGoes_closed airGoes_types Try.underlying4 rfl rfl airGoes_abs hval0 hW (fun l hl => by
    match l, hl with
    | [d1], _ => rfl)
theorem airGoes_holds : Rows.AirGoesSaid :=
  OpenClaim.holds_of_wide 7 Try.f7 rfl rfl rfl rfl rfl rfl rfl ⟨rfl, rfl, rfl, rfl, rfl⟩ rfl rfl rfl rfl rfl (by kernel_rfl) Try.func7 (by kernel_rfl)
    (of_decide_eq_true (by kernel_rfl)) (by unfold Func.isWrapper; first | (rw [if_pos (by decide +kernel)]; kernel_rfl) | (rw [if_neg (by decide +kernel)]; exact ⟨rfl, rfl⟩))
    (fun os started H enc _ => airGoes_lifted os started H enc)
#print axioms airGoes_holds
end Go.Proofs.Ytmnipfincjpofaa
