/-
  The contracts of RuleChecks, RuleEvals and RuleGrades.
-/
import Derived.Test.YtkdmoefacgbgkaaRlI
import Derived.Test.YtkdmoefacgbgkaaRlT
namespace Go.Proofs.Ytkdmoefacgbgkaa
set_option linter.unusedSimpArgs false
set_option linter.unusedVariables false
open Go Go.Abs
set_option maxRecDepth 100000
theorem ruleChecks_abs (xs : List D) (h : TyArgs Try.prog Try.f3.params.toList xs) : Contract Try.prog gl 3 xs (.x (.bool true)) := by
  simp [TyArgs] at h
  obtain ⟨d, r, rfl, h1, d', rfl, h2⟩ := h
  obtain ⟨e, rfl, hf⟩ := tyExV h1
  obtain ⟨l, rfl, hl, _⟩ := tyFeatures h2
  exact C_law43_RuleChecks _ _ (checks_run e hf l)
theorem ruleEvals_abs (xs : List D) (h : TyArgs Try.prog Try.f4.params.toList xs) : Contract Try.prog gl 4 xs (.x (.bool true)) := by
  simp [TyArgs] at h
  obtain ⟨d, r, rfl, h1, d', rfl, h2⟩ := h
  obtain ⟨e, rfl, hf⟩ := tyExV h1
  obtain ⟨l, rfl, hl, _⟩ := tyFeatures h2
  exact C_law43_RuleEvals _ _ (evals_run e hf l)
theorem ruleGrades_abs (xs : List D) (h : TyArgs Try.prog Try.f5.params.toList xs) : Contract Try.prog gl 5 xs (.x (.bool true)) := by
  simp [TyArgs] at h
  obtain ⟨d, r, rfl, h1, d', rfl, h2⟩ := h
  obtain ⟨l, rfl, _, hf⟩ := tyRules h1
  obtain ⟨f, rfl, _, _⟩ := tyFeatures h2
  exact C_law43_RuleGrades _ _ (grades_run l (fun x hx => (hf x hx).1) f)
end Go.Proofs.Ytkdmoefacgbgkaa
