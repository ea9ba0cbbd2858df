/-
  The contract of RuleFeatures.
-/
import Derived.Test.YtkdmoefacgbgkaaRlO
import Derived.Test.YtkdmoefacgbgkaaRlT
namespace Go.Proofs.Ytkdmoefacgbgkaa
set_option linter.unusedSimpArgs false
set_option linter.unusedVariables false
open Go Go.Abs
set_option maxRecDepth 100000
theorem ruleFeatures_abs (xs : List D) (h : TyArgs Try.prog Try.f7.params.toList xs) : Contract Try.prog gl 7 xs (.x (.bool true)) := by
  simp [TyArgs] at h
  obtain ⟨d, r, rfl, h1, d', r', rfl, h2, d'', rfl, h3⟩ := h
  obtain ⟨e, rfl, hf⟩ := tyExV h1
  obtain ⟨l, rfl, _, _⟩ := tyFeatures h2
  obtain ⟨n, cs, rfl, hc⟩ := TyV.agg ag46 h3
  obtain ⟨x, rfl, _⟩ := tyFeature hc
  exact C_law43_RuleFeatures _ _ (feat_run e hf l x)
end Go.Proofs.Ytkdmoefacgbgkaa
