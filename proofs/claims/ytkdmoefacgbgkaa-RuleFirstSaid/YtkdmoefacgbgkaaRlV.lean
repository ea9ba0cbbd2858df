/-
  The contracts of RuleTypes and RuleFirst.
-/
import Derived.Test.YtkdmoefacgbgkaaRlK
import Derived.Test.YtkdmoefacgbgkaaRlT
namespace Go.Proofs.Ytkdmoefacgbgkaa
set_option linter.unusedSimpArgs false
set_option linter.unusedVariables false
open Go Go.Abs
set_option maxRecDepth 100000
theorem ruleTypes_abs (xs : List D) (h : TyArgs Try.prog Try.f6.params.toList xs) : Contract Try.prog gl 6 xs (.x (.bool true)) := by
  simp [TyArgs] at h
  obtain ⟨d, r, rfl, h1, d', rfl, h2⟩ := h
  obtain ⟨e, rfl, hf⟩ := tyExV h1
  obtain ⟨l, rfl, hl, _⟩ := tyFeatures h2
  exact C_law43_RuleTypes _ _ (types_run e hf l)
theorem ruleFirst_abs (xs : List D) (h : TyArgs Try.prog Try.f8.params.toList xs) : Contract Try.prog gl 8 xs (.x (.bool true)) := by
  simp [TyArgs] at h
  obtain ⟨d, r, rfl, h1, d', rfl, h2⟩ := h
  obtain ⟨l, rfl, _, hf⟩ := tyRules h1
  obtain ⟨f, rfl, _, _⟩ := tyFeatures h2
  exact C_law43_RuleFirst _ _ (first_run l (fun x hx => (hf x hx).1) f)
end Go.Proofs.Ytkdmoefacgbgkaa
