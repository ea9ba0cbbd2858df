/-
  The contract of FeatureOrder.
-/
import Derived.Test.YtjhlidaikegelaaFtY
import Derived.Test.YtjhlidaikegelaaFuC
namespace Go.Proofs.Ytjhlidaikegelaa
set_option linter.unusedSimpArgs false
set_option linter.unusedVariables false
open Go Go.Abs
set_option maxRecDepth 100000
theorem featureOrder_abs (xs : List D) (h : TyArgs Try.prog Try.f6.params.toList xs) : Contract Try.prog gl 6 xs (.x (.bool true)) := by
  simp [TyArgs] at h
  obtain ⟨d, r, rfl, h1, d', rfl, h2⟩ := h
  obtain ⟨g, rfl, ok⟩ := tyGd h1
  obtain ⟨t, rfl, _⟩ := tyI h2
  exact C_law42_FeatureOrder _ _ (order_law g ok.ps t)
end Go.Proofs.Ytjhlidaikegelaa
