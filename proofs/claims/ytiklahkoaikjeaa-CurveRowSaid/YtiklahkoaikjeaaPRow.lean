/-
  The statement CurveRow, proved for every input.
-/
import Derived.Test.YtiklahkoaikjeaaCvW
import Derived.Test.YtiklahkoaikjeaaAbs3
import Derived.ProofKit
namespace Go.Proofs.Ytiklahkoaikjeaa
open Go Go.Abs Go.ChangeShapes Go.WideShapes Go.ChangeAt Go.RowKit
set_option maxRecDepth 100000
set_option linter.unusedSimpArgs false
set_option linter.unusedVariables false
theorem curveRow_own : ownKnob Try.prog.godebug = none := by kernel_rfl
theorem curveRow_closed : okS Try.prog [22, 32, 3] = true := by kernel_rfl
theorem curveRow_types : ∀ t ∈ Try.f3.params.toList, t ∈ [22, 32, 3] ∧ Try.prog.readableRec t = true ∧ t < Try.prog.types.size := by
  have e : Try.f3.params.toList = [22, 3, 3] := rfl
  rw [e]
  intro t ht
  simp at ht
  rcases ht with rfl | rfl
  · exact ⟨by simp, by kernel_rfl, by decide +kernel⟩
  · exact ⟨by simp, by kernel_rfl, by decide +kernel⟩
theorem curveRow_lifted (os : Os) (started : os.Started) (H : Type) (enc : TypeId × Value → H) :
    ReturnsInHanded {} Try.checked os 3 .any (Rows.curveRowSpec.pre6 enc Try.prog Try.f3 Rows.curveRowRow.domain false) (Rows.curveRowSpec.post enc Try.prog Try.f3 false true false false) := by
  refine returnsInHanded_of_change (C := Try.checked) curveRow_own started (by kernel_rfl) Try.func3
    (ChangeSpec.witness6 (enc := enc) (C := Try.checked) false ⟨#[], #[.slice none 0 0, .int .i64 0, .int .i64 0], []⟩ 8 (by kernel_rfl) (by kernel_rfl) (by kernel_rfl) (by kernel_rfl)) ?_
  intro W base args ds gs before hval0 hW hcnd _
  exact law_calls laid curveRow_closed curveRow_types Try.underlying4 rfl rfl (fun g cs h => by cases h) curveRow_abs hval0 hW (fun l hl => by
    match l, hl with
    | [d1, d2, d3], _ => rfl)
theorem curveRow_holds : Rows.CurveRowSaid :=
  OpenClaim.holds_of_wide 3 Try.f3 rfl rfl rfl rfl rfl rfl rfl ⟨rfl, rfl, rfl, rfl, rfl⟩ rfl rfl rfl rfl rfl (by kernel_rfl) Try.func3 (by kernel_rfl)
    (of_decide_eq_true (by kernel_rfl)) (by unfold Func.isWrapper; first | (rw [if_pos (by decide +kernel)]; kernel_rfl) | (rw [if_neg (by decide +kernel)]; exact ⟨rfl, rfl⟩))
    (fun os started H enc _ => curveRow_lifted os started H enc)
#print axioms curveRow_holds
end Go.Proofs.Ytiklahkoaikjeaa
