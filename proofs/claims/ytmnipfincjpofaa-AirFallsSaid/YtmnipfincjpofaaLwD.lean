/-
  The statement AirFalls, proved for every input.
-/
import Derived.Test.YtmnipfincjpofaaArT
import Derived.Test.YtmnipfincjpofaaAbsU
import Derived.ProofKit
namespace Go.Proofs.Ytmnipfincjpofaa
open Go Go.Abs Go.ChangeShapes Go.WideShapes Go.ChangeAt Go.RowKit
set_option maxRecDepth 100000
set_option linter.unusedSimpArgs false
set_option linter.unusedVariables false
theorem airFalls_own : ownKnob Try.prog.godebug = none := by kernel_rfl
theorem airFalls_closed : okS Try.prog [30, 3] = true := by kernel_rfl
theorem airFalls_types : ∀ t ∈ Try.f6.params.toList, t ∈ [30, 3] ∧ Try.prog.readableRec t = true ∧ t < Try.prog.types.size := by
  have e : Try.f6.params.toList = [30, 30] := rfl
  rw [e]
  intro t ht
  simp at ht
  subst ht
  exact ⟨by simp, by kernel_rfl, by decide +kernel⟩
theorem airFalls_lifted (os : Os) (started : os.Started) (H : Type) (enc : TypeId × Value → H) :
    ReturnsInHanded {} Try.checked os 6 .any (Rows.airFallsSpec.pre6 enc Try.prog Try.f6 Rows.airFallsRow.domain false) (Rows.airFallsSpec.post enc Try.prog Try.f6 false true false false) := by
  refine returnsInHanded_of_change (C := Try.checked) airFalls_own started (by kernel_rfl) Try.func6
    (ChangeSpec.witness6 (enc := enc) (C := Try.checked) false ⟨#[], #[.agg #[.int .i64 0, .int .i64 0], .agg #[.int .i64 0, .int .i64 0]], []⟩ 8 (by kernel_rfl) (by kernel_rfl) (by kernel_rfl) (by kernel_rfl)) ?_
  intro W base args ds gs before hval0 hW hcnd _
  exact law_calls laid airFalls_closed airFalls_types Try.underlying4 rfl rfl airFalls_abs hval0 hW (fun l hl => by
    match l, hl with
    | [d1, d2], _ => rfl)
theorem airFalls_holds : Rows.AirFallsSaid :=
  OpenClaim.holds_of_wide 6 Try.f6 rfl rfl rfl rfl rfl rfl rfl ⟨rfl, rfl, rfl, rfl, rfl⟩ rfl rfl rfl rfl rfl (by kernel_rfl) Try.func6 (by kernel_rfl)
    (of_decide_eq_true (by kernel_rfl)) (by unfold Func.isWrapper; first | (rw [if_pos (by decide +kernel)]; kernel_rfl) | (rw [if_neg (by decide +kernel)]; exact ⟨rfl, rfl⟩))
    (fun os started H enc _ => airFalls_lifted os started H enc)
#print axioms airFalls_holds
end Go.Proofs.Ytmnipfincjpofaa
