/-
  The statement CurveTables, proved for every input.
-/
import Derived.Test.YtcgghmmljpikdaaCvU
import Derived.Test.YtcgghmmljpikdaaAbsU
import Derived.ProofKit
namespace Go.Proofs.Ytcgghmmljpikdaa
open Go Go.Abs Go.ChangeShapes Go.WideShapes Go.ChangeAt Go.RowKit
set_option maxRecDepth 100000
set_option linter.unusedSimpArgs false
set_option linter.unusedVariables false
theorem curveTables_own : ownKnob Try.prog.godebug = none := by kernel_rfl
theorem curveTables_closed : okS Try.prog [34, 31, 3, 32] = true := by kernel_rfl
theorem curveTables_types : ∀ t ∈ Try.f9.params.toList, t ∈ [34, 31, 3, 32] ∧ Try.prog.readableRec t = true ∧ t < Try.prog.types.size := by
  have e : Try.f9.params.toList = [34, 3, 3] := rfl
  rw [e]
  intro t ht
  simp at ht
  rcases ht with rfl | rfl
  · exact ⟨by simp, by kernel_rfl, by decide +kernel⟩
  · exact ⟨by simp, by kernel_rfl, by decide +kernel⟩
theorem curveTables_lifted (os : Os) (started : os.Started) (H : Type) (enc : TypeId × Value → H) :
    ReturnsInHanded {} Try.checked os 9 .any (Rows.curveTablesSpec.pre6 enc Try.prog Try.f9 Rows.curveTablesRow.domain false) (Rows.curveTablesSpec.post enc Try.prog Try.f9 false true false false) := by
  refine returnsInHanded_of_change (C := Try.checked) curveTables_own started (by kernel_rfl) Try.func9
    (ChangeSpec.witness6 (enc := enc) (C := Try.checked) false ⟨#[], #[.agg #[.slice none 0 0, .slice none 0 0, .slice none 0 0], .int .i64 0, .int .i64 0], []⟩ 8 (by kernel_rfl) (by kernel_rfl) (by kernel_rfl) (by kernel_rfl)) ?_
  intro W base args ds gs before hval0 hW hcnd _
  exact law_calls laid curveTables_closed curveTables_types Try.underlying4 rfl rfl curveTables_abs hval0 hW (fun l hl => by
    match l, hl with
    | [d1, d2, d3], _ => rfl)
theorem curveTables_holds : Rows.CurveTablesSaid :=
  OpenClaim.holds_of_wide 9 Try.f9 rfl rfl rfl rfl rfl rfl rfl ⟨rfl, rfl, rfl, rfl, rfl⟩ rfl rfl rfl rfl rfl (by kernel_rfl) Try.func9 (by kernel_rfl)
    (of_decide_eq_true (by kernel_rfl)) (by unfold Func.isWrapper; first | (rw [if_pos (by decide +kernel)]; kernel_rfl) | (rw [if_neg (by decide +kernel)]; exact ⟨rfl, rfl⟩))
    (fun os started H enc _ => curveTables_lifted os started H enc)
#print axioms curveTables_holds
end Go.Proofs.Ytcgghmmljpikdaa
