/-
  The statement AirTable, proved for every input.
-/
import Derived.Test.YtmnipfincjpofaaArT
import Derived.Test.YtmnipfincjpofaaAbsU
import Derived.ProofKit
namespace Go.Proofs.Ytmnipfincjpofaa
open Go Go.Abs Go.ChangeShapes Go.WideShapes Go.ChangeAt Go.RowKit
set_option maxRecDepth 100000
set_option linter.unusedSimpArgs false
set_option linter.unusedVariables false
theorem airTable_own : ownKnob Try.prog.godebug = none := by kernel_rfl
theorem airTable_closed : okS Try.prog [] = true := by kernel_rfl
theorem airTable_types : ∀ t ∈ Try.f3.params.toList, t ∈ [] ∧ Try.prog.readableRec t = true ∧ t < Try.prog.types.size := by
  have e : Try.f3.params.toList = [] := rfl
  rw [e]
  intro t ht
  simp at ht
theorem airTable_lifted (os : Os) (started : os.Started) (H : Type) (enc : TypeId × Value → H) :
    ReturnsInHanded {} Try.checked os 3 .any (Rows.airTableSpec.pre6 enc Try.prog Try.f3 Rows.airTableRow.domain false) (Rows.airTableSpec.post enc Try.prog Try.f3 false true false false) := by
  refine returnsInHanded_of_change (C := Try.checked) airTable_own started (by kernel_rfl) Try.func3
    (ChangeSpec.witness6 (enc := enc) (C := Try.checked) false ⟨#[], #[], []⟩ 8 (by kernel_rfl) (by kernel_rfl) (by kernel_rfl) (by kernel_rfl)) ?_
  intro W base args ds gs before hval0 hW hcnd _
  exact law_calls laid airTable_closed airTable_types Try.underlying4 rfl rfl airTable_abs hval0 hW (fun l hl => by
    match l, hl with
    | [], _ => rfl)
theorem airTable_holds : Rows.AirTableSaid :=
  OpenClaim.holds_of_wide 3 Try.f3 rfl rfl rfl rfl rfl rfl rfl ⟨rfl, rfl, rfl, rfl, rfl⟩ rfl rfl rfl rfl rfl (by kernel_rfl) Try.func3 (by kernel_rfl)
    (of_decide_eq_true (by kernel_rfl)) (by unfold Func.isWrapper; first | (rw [if_pos (by decide +kernel)]; kernel_rfl) | (rw [if_neg (by decide +kernel)]; exact ⟨rfl, rfl⟩))
    (fun os started H enc _ => airTable_lifted os started H enc)
#print axioms airTable_holds
end Go.Proofs.Ytmnipfincjpofaa
