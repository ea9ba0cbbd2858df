/-
  The contracts of CurveBetween, CurveFirst and CurveTables.
-/
import Derived.Test.YtcgghmmljpikdaaCvT
import Derived.Test.YtcgghmmljpikdaaCvI
import Derived.Test.YtcgghmmljpikdaaCvJ
import Derived.Test.YtcgghmmljpikdaaCvK
namespace Go.Proofs.Ytcgghmmljpikdaa
set_option linter.unusedSimpArgs false
set_option linter.unusedVariables false
open Go Go.Abs
set_option maxRecDepth 100000
theorem curveBetween_abs (xs : List D) (h : TyArgs Try.prog Try.f7.params.toList xs) : Contract Try.prog 7 xs (.x (.bool true)) := by
  simp [TyArgs] at h
  obtain ⟨d, r, rfl, h1, d', r', rfl, h2, d'', rfl, h3⟩ := h
  obtain ⟨l, rfl, hl, _⟩ := tyPoints h1
  obtain ⟨x, rfl, hx⟩ := tyI h2
  obtain ⟨z, rfl, hz⟩ := tyI h3
  exact C_law08_CurveBetween _ _ (between_law l x z hl)
theorem curveFirst_abs (xs : List D) (h : TyArgs Try.prog Try.f8.params.toList xs) : Contract Try.prog 8 xs (.x (.bool true)) := by
  simp [TyArgs] at h
  obtain ⟨d, r, rfl, h1, d', r', rfl, h2, d'', rfl, h3⟩ := h
  obtain ⟨l, rfl, hl, _⟩ := tyPoints h1
  obtain ⟨y, rfl, hy⟩ := tyI h2
  obtain ⟨x, rfl, hx⟩ := tyI h3
  exact C_law08_CurveFirst _ _ (first_law l y x hl hy)
theorem curveTables_abs (xs : List D) (h : TyArgs Try.prog Try.f9.params.toList xs) : Contract Try.prog 9 xs (.x (.bool true)) := by
  simp [TyArgs] at h
  obtain ⟨d, r, rfl, h1, d', r', rfl, h2, d'', rfl, h3⟩ := h
  obtain ⟨g, rfl, hg⟩ := tyGrid h1
  obtain ⟨x, rfl, hx⟩ := tyI h2
  obtain ⟨y, rfl, hy⟩ := tyI h3
  exact C_law08_CurveTables _ _ (tables_law g x y hg)
end Go.Proofs.Ytcgghmmljpikdaa
