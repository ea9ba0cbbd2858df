/-
  The inputs of the air's statements, and their contracts.
-/
import Derived.Test.YtmnipfincjpofaaCvV
import Derived.Test.YtmnipfincjpofaaArC
import Derived.Test.YtmnipfincjpofaaArE
namespace Go.Proofs.Ytmnipfincjpofaa
set_option linter.unusedSimpArgs false
set_option linter.unusedVariables false
open Go Go.Abs
set_option maxRecDepth 100000
theorem tyClimate {d : D} (h : TyV Try.prog 30 d) : ∃ a b : Int, d = .agg [I a, I b] := by
  obtain ⟨n, cs, rfl, hc⟩ := TyV.agg ag30 h; clear h
  obtain ⟨hl, m, h⟩ := TyC.struct Try.underlying30 hc
  rw [co30] at hl
  match cs, hl with
  | [x0, x1], _ =>
    simp at h
    obtain ⟨h0, h1⟩ := h
    obtain ⟨a0, e0, _⟩ := tyInt h0
    obtain ⟨a1, e1, _⟩ := tyInt h1
    injection e0 with e0; injection e1 with e1
    exact ⟨a0, a1, by rw [e0, e1]⟩
theorem tyTick {d : D} (h : TyV Try.prog 36 d) : ∃ (a b c e r : Int) (f : List Int), d = .agg [I a, I b, I c, I e, I r, .sl (f.map eI)] ∧ f.length ≤ 9223372036854775807 := by
  obtain ⟨n, cs, rfl, hc⟩ := TyV.agg ag36 h; clear h
  obtain ⟨hl, m, h⟩ := TyC.struct Try.underlying36 hc
  rw [co36] at hl
  match cs, hl with
  | [x0, x1, x2, x3, x4, x5], _ =>
    simp at h
    obtain ⟨h0, h1, h2, h3⟩ := h
    obtain ⟨_, m', k0⟩ := TyC.struct Try.underlying30 h0
    obtain ⟨_, m'', k1⟩ := TyC.struct Try.underlying30 h1
    simp at k0 k1
    obtain ⟨a0, e0, _⟩ := tyInt k0.1
    obtain ⟨a1, e1, _⟩ := tyInt k0.2
    obtain ⟨a2, e2, _⟩ := tyInt k1.1
    obtain ⟨a3, e3, _⟩ := tyInt k1.2
    obtain ⟨a4, e4, _⟩ := tyInt h2
    obtain ⟨a5, e5, hf, _⟩ := tyInts h3
    injection e0 with e0; injection e1 with e1; injection e2 with e2; injection e3 with e3; injection e4 with e4; injection e5 with e5
    exact ⟨a0, a1, a2, a3, a4, a5, by rw [e0, e1, e2, e3, e4, e5], hf⟩
theorem airTable_abs (xs : List D) (h : TyArgs Try.prog Try.f3.params.toList xs) : Contract Try.prog 3 xs (.x (.bool true)) := by
  simp [TyArgs] at h
  subst h
  exact C_law35_AirTable _ _ table_law
theorem airEmcs_abs (xs : List D) (h : TyArgs Try.prog Try.f4.params.toList xs) : Contract Try.prog 4 xs (.x (.bool true)) := by
  simp [TyArgs] at h
  obtain ⟨d, rfl, h1⟩ := h
  obtain ⟨a, b, rfl⟩ := tyClimate h1
  exact C_law35_AirEmcs _ _ (emcs_law a b)
theorem airNexts_abs (xs : List D) (h : TyArgs Try.prog Try.f5.params.toList xs) : Contract Try.prog 5 xs (.x (.bool true)) := by
  simp [TyArgs] at h
  obtain ⟨d, rfl, h1⟩ := h
  obtain ⟨a, b, c, e, r, f, rfl, hf⟩ := tyTick h1
  exact C_law35_AirNexts _ _ (nexts_law a b c e r f hf)
theorem airGoes_abs (xs : List D) (h : TyArgs Try.prog Try.f7.params.toList xs) : Contract Try.prog 7 xs (.x (.bool true)) := by
  simp [TyArgs] at h
  obtain ⟨d, rfl, h1⟩ := h
  obtain ⟨a, b, c, e, r, f, rfl, hf⟩ := tyTick h1
  exact C_law35_AirGoes _ _ (goes_law a b c e r f hf)
theorem airFalls_abs (xs : List D) (h : TyArgs Try.prog Try.f6.params.toList xs) : Contract Try.prog 6 xs (.x (.bool true)) := by
  simp [TyArgs] at h
  obtain ⟨d, r, rfl, h1, d', rfl, h2⟩ := h
  obtain ⟨a, b, rfl⟩ := tyClimate h1
  obtain ⟨c, e, rfl⟩ := tyClimate h2
  exact C_law35_AirFalls _ _ (falls_law a b c e)
theorem airReaches_abs (xs : List D) (h : TyArgs Try.prog Try.f8.params.toList xs) : Contract Try.prog 8 xs (.x (.bool true)) := by
  simp [TyArgs] at h
  obtain ⟨d, r, rfl, h1, d', r', rfl, h2, d'', rfl, h3⟩ := h
  obtain ⟨a, b, rfl⟩ := tyClimate h1
  obtain ⟨c, e, rfl⟩ := tyClimate h2
  obtain ⟨x, rfl, _⟩ := tyI h3
  exact C_law35_AirReaches _ _ (reaches_law a b c e x)
end Go.Proofs.Ytmnipfincjpofaa
