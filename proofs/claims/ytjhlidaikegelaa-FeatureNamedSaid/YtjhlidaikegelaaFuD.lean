/-
  The contracts of the chapter's statements.
-/
import Derived.Test.YtjhlidaikegelaaFtY
import Derived.Test.YtjhlidaikegelaaFuB
namespace Go.Proofs.Ytjhlidaikegelaa
set_option linter.unusedSimpArgs false
set_option linter.unusedVariables false
open Go Go.Abs
set_option maxRecDepth 100000
theorem featureGets_abs (xs : List D) (h : TyArgs Try.prog Try.f3.params.toList xs) : Contract Try.prog gl 3 xs (.x (.bool true)) := by
  simp [TyArgs] at h
  obtain ⟨d, r, rfl, h1, d', rfl, h2⟩ := h
  obtain ⟨l, rfl, _⟩ := tyFts h1
  obtain ⟨s, rfl⟩ := tyStr h2
  exact C_law42_FeatureGets _ _ (gets_law l s)
theorem featureCounts_abs (xs : List D) (h : TyArgs Try.prog Try.f4.params.toList xs) : Contract Try.prog gl 4 xs (.x (.bool true)) := by
  simp [TyArgs] at h
  obtain ⟨d, rfl, h1⟩ := h
  obtain ⟨g, rfl, ok⟩ := tyGd h1
  exact C_law42_FeatureCounts _ _ (counts_law g ok.ps)
theorem featureAgrees_abs (xs : List D) (h : TyArgs Try.prog Try.f5.params.toList xs) : Contract Try.prog gl 5 xs (.x (.bool true)) := by
  simp [TyArgs] at h
  obtain ⟨d, rfl, h1⟩ := h
  obtain ⟨g, rfl, ok⟩ := tyGd h1
  exact C_law42_FeatureAgrees _ _ (agrees_law g ok.ps)
theorem featureNamed_abs (xs : List D) (h : TyArgs Try.prog Try.f7.params.toList xs) : Contract Try.prog gl 7 xs (.x (.bool true)) := by
  simp [TyArgs] at h
  obtain ⟨d, rfl, h1⟩ := h
  obtain ⟨g, rfl, ok⟩ := tyGd h1
  exact C_law42_FeatureNamed _ _ (named_law g ok.ps)
end Go.Proofs.Ytjhlidaikegelaa
