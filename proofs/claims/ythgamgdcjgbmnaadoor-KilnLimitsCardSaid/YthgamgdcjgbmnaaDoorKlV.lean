/-
  The contract of KilnLimits.
-/
import Derived.Test.YthgamgdcjgbmnaaDoorKlU
import Derived.Test.YthgamgdcjgbmnaaDoorKlH
namespace Go.Proofs.YthgamgdcjgbmnaaDoor
set_option linter.unusedSimpArgs false
set_option linter.unusedVariables false
open Go Go.Abs
set_option maxRecDepth 100000
theorem tyFaults {d : D} (h : TyV Tryd.prog 43 d) : ∃ l : List (List Int), d = .sl (l.map eF) ∧ l.length ≤ 9223372036854775807 ∧ ∀ f ∈ l, f.length ≤ 9223372036854775807 := by
  obtain ⟨n, h⟩ := TyV.cell ag43 h
  obtain ⟨es, m, e, hl, hx⟩ := TyC.slice Tryd.underlying43 h
  obtain ⟨l, rfl, hp⟩ := rows_of (enc := eF) (p := fun f => f.length ≤ 9223372036854775807) es (fun x hx' => by
    obtain ⟨a, e, ha, _⟩ := tyInts (hx x hx')
    exact ⟨a, e, ha⟩)
  injection e with e
  exact ⟨l, e, by simpa using hl, hp⟩
theorem kilnLimits_abs (xs : List D) (h : TyArgs Tryd.prog Tryd.f4.params.toList xs) : Contract Tryd.prog gl 4 xs (.x (.bool true)) := by
  simp [TyArgs] at h
  obtain ⟨d, r, rfl, h1, d', rfl, h2⟩ := h
  obtain ⟨nm, ramp, g, w, l, rfl⟩ := tyCase h1
  obtain ⟨fs, rfl, hfs, _⟩ := tyFaults h2
  exact C_law38_KilnLimits _ _ (limits_law nm ramp g w l fs hfs)
end Go.Proofs.YthgamgdcjgbmnaaDoor
