/-
  The contract of MoistSums.
-/
import Derived.Test.YtmnipfincjpofaaMoT
import Derived.Test.YtmnipfincjpofaaMoE
namespace Go.Proofs.Ytmnipfincjpofaa
set_option linter.unusedSimpArgs false
set_option linter.unusedVariables false
open Go Go.Abs
set_option maxRecDepth 100000
theorem moistSums_abs (xs : List D) (h : TyArgs Try.prog Try.f14.params.toList xs) : Contract Try.prog 14 xs (.x (.bool true)) := by
  simp [TyArgs] at h
  obtain ⟨d, rfl, h1⟩ := h
  obtain ⟨b, rfl⟩ := tyBrd h1
  exact C_law36_MoistSums _ _ (sums_law b)
end Go.Proofs.Ytmnipfincjpofaa
