/-
  The contract of ChargeChecks.
-/
import Derived.Test.YtdefohgkniglpaaGreatDoorChR
namespace Go.Proofs.YtdefohgkniglpaaGreatDoor
set_option linter.unusedSimpArgs false
set_option linter.unusedVariables false
open Go Go.Abs
set_option maxRecDepth 100000
theorem tyRun {d : D} (h : TyV Tryz.prog 34 d) : ∃ a b c t e f : Int, d = .agg [I a, I b, I c, I t, I e, I f] := by
  obtain ⟨n, cs, rfl, hc⟩ := TyV.agg ag34 h; clear h
  obtain ⟨hl, m, h⟩ := TyC.struct Tryz.underlying34 hc
  rw [co34] at hl
  match cs, hl with
  | [y0, y1, y2, y3, y4, y5], _ =>
    simp at h
    obtain ⟨h0, h1, h2, h3, h4⟩ := h
    obtain ⟨_, _, h3⟩ := TyC.struct Tryz.underlying32 h3
    simp at h3
    obtain ⟨h3, h5⟩ := h3
    obtain ⟨a0, e0, _⟩ := tyInt h0
    obtain ⟨a1, e1, _⟩ := tyInt h1
    obtain ⟨a2, e2, _⟩ := tyInt h2
    obtain ⟨a3, e3, _⟩ := tyInt h3
    obtain ⟨a4, e4, _⟩ := tyInt h5
    obtain ⟨a5, e5, _⟩ := tyInt h4
    injection e0 with e0; injection e1 with e1; injection e2 with e2; injection e3 with e3; injection e4 with e4; injection e5 with e5
    exact ⟨a0, a1, a2, a3, a4, a5, by rw [e0, e1, e2, e3, e4, e5]⟩
theorem chargeChecks_abs (xs : List D) (h : TyArgs Tryz.prog Tryz.f3.params.toList xs) : Contract Tryz.prog gl 3 xs (.x (.bool true)) := by
  simp [TyArgs] at h
  obtain ⟨d, r, rfl, h1, d', rfl, h2⟩ := h
  obtain ⟨g, rfl, ok⟩ := tyGv h1
  obtain ⟨a, b, c, t, e, f, rfl⟩ := tyRun h2
  exact C_law40_ChargeChecks _ _ (checks_law g ok a b c t e f)
end Go.Proofs.YtdefohgkniglpaaGreatDoor
