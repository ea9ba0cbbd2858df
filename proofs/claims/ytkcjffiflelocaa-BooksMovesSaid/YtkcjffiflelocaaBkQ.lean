/-
  The statement BooksMoves, proved for every input.
-/
import Derived.Test.YtkcjffiflelocaaBkP
import Derived.Test.YtkcjffiflelocaaBkG
namespace Go.Proofs.Ytkcjffiflelocaa
open Go Go.Abs Go.ChangeShapes Go.WideShapes Go.ChangeAt Go.RowKit
set_option maxRecDepth 100000

theorem booksMoves_abs (xs : List D) (h : TyArgs Try.prog Try.f4.params.toList xs) : Contract Try.prog 4 xs (.x (.bool true)) := by
  simp [TyArgs] at h
  obtain ⟨d, rfl, h1⟩ := h
  obtain ⟨n, h1⟩ := TyV.cell ag3 h1
  obtain ⟨k, e, _⟩ := TyC.i64 Try.underlying3 h1
  injection e with e
  subst e
  exact C_law52_BooksMoves _ _ (moves_run k)
theorem booksMoves_closed : okS Try.prog [3] = true := by kernel_rfl
theorem booksMoves_types : ∀ t ∈ Try.f4.params.toList, t ∈ [3] ∧ Try.prog.readableRec t = true ∧ t < Try.prog.types.size := by
  have e : Try.f4.params.toList = [3] := rfl
  rw [e]
  intro t ht
  simp at ht
  subst ht
  · exact ⟨by simp, by kernel_rfl, by decide +kernel⟩
theorem booksMoves_lifted (os : Os) (started : os.Started) (H : Type) (enc : TypeId × Value → H) :
    ReturnsInHanded {} Try.checked os 4 .any (Rows.booksMovesSpec.pre6 enc Try.prog Try.f4 Rows.booksMovesRow.domain false) (Rows.booksMovesSpec.post enc Try.prog Try.f4 false true false false) := by
  refine returnsInHanded_of_change (C := Try.checked) own started (by kernel_rfl) Try.func4
    (ChangeSpec.witness6 (enc := enc) (C := Try.checked) false ⟨#[], #[.int .i64 0], []⟩ 8 (by kernel_rfl) (by kernel_rfl) (by kernel_rfl) (by kernel_rfl)) ?_
  intro W base args ds gs before hval0 hW hcnd _
  exact law_calls laid booksMoves_closed booksMoves_types Try.underlying4 rfl rfl booksMoves_abs hval0 hW (fun l hl => by
    match l, hl with
    | [d], _ => rfl)
theorem booksMoves_holds : Rows.BooksMovesSaid :=
  OpenClaim.holds_of_wide 4 Try.f4 rfl rfl rfl rfl rfl rfl rfl ⟨rfl, rfl, rfl, rfl, rfl⟩ rfl rfl rfl rfl rfl (by kernel_rfl) Try.func4 (by kernel_rfl)
    (of_decide_eq_true (by kernel_rfl)) (by unfold Func.isWrapper; first | (rw [if_pos (by decide +kernel)]; kernel_rfl) | (rw [if_neg (by decide +kernel)]; exact ⟨rfl, rfl⟩))
    (fun os started H enc _ => booksMoves_lifted os started H enc)
#print axioms booksMoves_holds
end Go.Proofs.Ytkcjffiflelocaa
