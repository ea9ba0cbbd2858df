/-
  The statement BooksOpen, proved for every input.
-/
import Derived.Test.YtgngoijehjphoaaBoK
import Derived.Test.YtgngoijehjphoaaAbs3
import Derived.ProofKit
namespace Go.Proofs.Ytgngoijehjphoaa
open Go Go.Abs Go.ChangeShapes Go.WideShapes Go.ChangeAt Go.RowKit
set_option maxRecDepth 100000
set_option linter.unusedSimpArgs false
set_option linter.unusedVariables false
theorem booksOpen_own : ownKnob Try.prog.godebug = none := by kernel_rfl
theorem booksOpen_closed : okS Try.prog [22, 36, 5, 4, 34] = true := by kernel_rfl
theorem booksOpen_types : ∀ t ∈ Try.f3.params.toList, t ∈ [22, 36, 5, 4, 34] ∧ Try.prog.readableRec t = true ∧ t < Try.prog.types.size := by
  have e : Try.f3.params.toList = [22, 4] := rfl
  rw [e]
  intro t ht
  simp at ht
  rcases ht with rfl | rfl
  · exact ⟨by simp, by kernel_rfl, by decide +kernel⟩
  · exact ⟨by simp, by kernel_rfl, by decide +kernel⟩
theorem booksOpen_lifted (os : Os) (started : os.Started) (H : Type) (enc : TypeId × Value → H) :
    ReturnsInHanded {} Try.checked os 3 .any (Rows.booksOpenSpec.pre6 enc Try.prog Try.f3 Rows.booksOpenRow.domain false) (Rows.booksOpenSpec.post enc Try.prog Try.f3 false true false false) := by
  refine returnsInHanded_of_change (C := Try.checked) booksOpen_own started (by kernel_rfl) Try.func3
    (ChangeSpec.witness6 (enc := enc) (C := Try.checked) false ⟨#[], #[.slice none 0 0, .bool false], []⟩ 8 (by kernel_rfl) (by kernel_rfl) (by kernel_rfl) (by kernel_rfl)) ?_
  intro W base args ds gs before hval0 hW hcnd _
  exact law_calls laid booksOpen_closed booksOpen_types Try.underlying4 rfl rfl (fun g cs h => by cases h) booksOpen_abs hval0 hW (fun l hl => by
    match l, hl with
    | [d1, d2], _ => rfl)
theorem booksOpen_holds : Rows.BooksOpenSaid :=
  OpenClaim.holds_of_wide 3 Try.f3 rfl rfl rfl rfl rfl rfl rfl ⟨rfl, rfl, rfl, rfl, rfl⟩ rfl rfl rfl rfl rfl (by kernel_rfl) Try.func3 (by kernel_rfl)
    (of_decide_eq_true (by kernel_rfl)) (by unfold Func.isWrapper; first | (rw [if_pos (by decide +kernel)]; kernel_rfl) | (rw [if_neg (by decide +kernel)]; exact ⟨rfl, rfl⟩))
    (fun os started H enc _ => booksOpen_lifted os started H enc)
#print axioms booksOpen_holds
end Go.Proofs.Ytgngoijehjphoaa
