/-
  The statement BooksSums, proved for every input.
-/
import Derived.Test.YtkcjffiflelocaaBkP
import Derived.Test.YtkcjffiflelocaaBkI
namespace Go.Proofs.Ytkcjffiflelocaa
open Go Go.Abs Go.ChangeShapes Go.WideShapes Go.ChangeAt Go.RowKit
set_option maxRecDepth 100000

theorem booksSums_abs (xs : List D) (h : TyArgs Try.prog Try.f5.params.toList xs) : Contract Try.prog 5 xs (.x (.bool true)) := by
  simp [TyArgs] at h
  obtain ⟨d, r, rfl, h1, d', rfl, h2⟩ := h
  obtain ⟨a, b, c, e, v, rfl⟩ := tyYield h1
  obtain ⟨a', b', c', e', v', rfl⟩ := tyYield h2
  exact C_law52_BooksSums _ _ (sums_run a b c e v a' b' c' e' v')
theorem booksSums_closed : okS Try.prog [23, 3] = true := by kernel_rfl
theorem booksSums_types : ∀ t ∈ Try.f5.params.toList, t ∈ [23, 3] ∧ Try.prog.readableRec t = true ∧ t < Try.prog.types.size := by
  have e : Try.f5.params.toList = [23, 23] := rfl
  rw [e]
  intro t ht
  simp at ht
  subst ht
  · exact ⟨by simp, by kernel_rfl, by decide +kernel⟩
theorem booksSums_lifted (os : Os) (started : os.Started) (H : Type) (enc : TypeId × Value → H) :
    ReturnsInHanded {} Try.checked os 5 .any (Rows.booksSumsSpec.pre6 enc Try.prog Try.f5 Rows.booksSumsRow.domain false) (Rows.booksSumsSpec.post enc Try.prog Try.f5 false true false false) := by
  refine returnsInHanded_of_change (C := Try.checked) own started (by kernel_rfl) Try.func5
    (ChangeSpec.witness6 (enc := enc) (C := Try.checked) false ⟨#[], #[.agg #[.int .i64 0, .int .i64 0, .int .i64 0, .int .i64 0, .int .i64 0], .agg #[.int .i64 0, .int .i64 0, .int .i64 0, .int .i64 0, .int .i64 0]], []⟩ 8 (by kernel_rfl) (by kernel_rfl) (by kernel_rfl) (by kernel_rfl)) ?_
  intro W base args ds gs before hval0 hW hcnd _
  exact law_calls laid booksSums_closed booksSums_types Try.underlying4 rfl rfl booksSums_abs hval0 hW (fun l hl => by
    match l, hl with
    | [d1, d2], _ => rfl)
theorem booksSums_holds : Rows.BooksSumsSaid :=
  OpenClaim.holds_of_wide 5 Try.f5 rfl rfl rfl rfl rfl rfl rfl ⟨rfl, rfl, rfl, rfl, rfl⟩ rfl rfl rfl rfl rfl (by kernel_rfl) Try.func5 (by kernel_rfl)
    (of_decide_eq_true (by kernel_rfl)) (by unfold Func.isWrapper; first | (rw [if_pos (by decide +kernel)]; kernel_rfl) | (rw [if_neg (by decide +kernel)]; exact ⟨rfl, rfl⟩))
    (fun os started H enc _ => booksSums_lifted os started H enc)
#print axioms booksSums_holds
end Go.Proofs.Ytkcjffiflelocaa
