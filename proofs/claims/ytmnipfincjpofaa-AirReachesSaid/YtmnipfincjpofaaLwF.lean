/-
  The statement AirReaches, proved for every input.
-/
import Derived.Test.YtmnipfincjpofaaArT
import Derived.Test.YtmnipfincjpofaaAbsU
import Derived.ProofKit
namespace Go.Proofs.Ytmnipfincjpofaa
open Go Go.Abs Go.ChangeShapes Go.WideShapes Go.ChangeAt Go.RowKit
set_option maxRecDepth 100000
set_option linter.unusedSimpArgs false
set_option linter.unusedVariables false
theorem airReaches_own : ownKnob Try.prog.godebug = none := by kernel_rfl
theorem airReaches_closed : okS Try.prog [30, 3] = true := by kernel_rfl
theorem airReaches_types : ∀ t ∈ Try.f8.params.toList, t ∈ [30, 3] ∧ Try.prog.readableRec t = true ∧ t < Try.prog.types.size := by
  have e : Try.f8.params.toList = [30, 30, 3] := rfl
  rw [e]
  intro t ht
  simp at ht
  rcases ht with rfl | rfl
  · exact ⟨by simp, by kernel_rfl, by decide +kernel⟩
  · exact ⟨by simp, by kernel_rfl, by decide +kernel⟩
theorem airReaches_lifted (os : Os) (started : os.Started) (H : Type) (enc : TypeId × Value → H) :
    ReturnsInHanded {} Try.checked os 8 .any (Rows.airReachesSpec.pre6 enc Try.prog Try.f8 Rows.airReachesRow.domain false) (Rows.airReachesSpec.post enc Try.prog Try.f8 false true false false) := by
  refine returnsInHanded_of_change (C := Try.checked) airReaches_own started (by kernel_rfl) Try.func8
    (ChangeSpec.witness6 (enc := enc) (C := Try.checked) false ⟨#[], #[.agg #[.int .i64 0, .int .i64 0], .agg #[.int .i64 0, .int .i64 0], .int .i64 0], []⟩ 8 (by kernel_rfl) (by kernel_rfl) (by kernel_rfl) (by kernel_rfl)) ?_
  intro W base args ds gs before hval0 hW hcnd _
  exact law_calls laid airReaches_closed airReaches_types Try.underlying4 rfl rfl airReaches_abs hval0 hW (fun l hl => by
    match l, hl with
    | [d1, d2, d3], _ => rfl)
theorem airReaches_holds : Rows.AirReachesSaid :=
  OpenClaim.holds_of_wide 8 Try.f8 rfl rfl rfl rfl rfl rfl rfl ⟨rfl, rfl, rfl, rfl, rfl⟩ rfl rfl rfl rfl rfl (by kernel_rfl) Try.func8 (by kernel_rfl)
    (of_decide_eq_true (by kernel_rfl)) (by unfold Func.isWrapper; first | (rw [if_pos (by decide +kernel)]; kernel_rfl) | (rw [if_neg (by decide +kernel)]; exact ⟨rfl, rfl⟩))
    (fun os started H enc _ => airReaches_lifted os started H enc)
#print axioms airReaches_holds
end Go.Proofs.Ytmnipfincjpofaa
