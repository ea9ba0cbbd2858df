/-
  The inputs of the moisture's statements, and their contracts.
-/
import Derived.Test.YtmnipfincjpofaaCvV
import Derived.Test.YtmnipfincjpofaaMoD
namespace Go.Proofs.Ytmnipfincjpofaa
set_option linter.unusedSimpArgs false
set_option linter.unusedVariables false
open Go Go.Abs
set_option maxRecDepth 100000
theorem tyCel {n : Nat} {cs : List D} (h : TyC Try.prog n 45 cs) : ∃ x : Cel, cs = eC x := by
  obtain ⟨hl, m, h⟩ := TyC.struct Try.underlying45 h
  rw [co45] at hl
  match cs, hl with
  | [x0, x1, x2], _ =>
    simp at h
    obtain ⟨h0, h1, h2⟩ := h
    obtain ⟨a0, e0, _⟩ := tyInt h0
    obtain ⟨a1, e1, _⟩ := tyInt h1
    obtain ⟨a2, e2, _⟩ := tyInt h2
    injection e0 with e0; injection e1 with e1; injection e2 with e2
    exact ⟨⟨a0, a1, a2⟩, by rw [e0, e1, e2]; rfl⟩
theorem tySpc {n : Nat} {cs : List D} (h : TyC Try.prog n 47 cs) : ∃ w : Spc, cs = eS w ∧ w.name.size ≤ 9223372036854775807 := by
  obtain ⟨hl, m, h⟩ := TyC.struct Try.underlying47 h
  rw [co47] at hl
  match cs, hl with
  | [x0, x1, x2, x3, x4, x5, x6, x7, x8, x9, x10, x11, x12], _ =>
    simp at h
    obtain ⟨h0, h1, h2, h3, h4, h5, h6, h7, h8, h9, h10, h11, h12⟩ := h
    obtain ⟨a0, e0, hs⟩ := TyC.string Try.underlying9 h0
    obtain ⟨a1, e1, _⟩ := tyInt h1
    obtain ⟨a2, e2, _⟩ := tyInt h2
    obtain ⟨a3, e3, _⟩ := tyInt h3
    obtain ⟨a4, e4, _⟩ := tyInt h4
    obtain ⟨a5, e5, _⟩ := tyInt h5
    obtain ⟨a6, e6, _⟩ := tyInt h6
    obtain ⟨a7, e7, _⟩ := tyInt h7
    obtain ⟨a8, e8, _⟩ := tyInt h8
    obtain ⟨a9, e9, _⟩ := tyInt h9
    obtain ⟨a10, e10, _⟩ := tyInt h10
    obtain ⟨a11, e11, _⟩ := tyInt h11
    obtain ⟨a12, e12, _⟩ := tyInt h12
    injection e0 with e0; injection e1 with e1; injection e2 with e2; injection e3 with e3; injection e4 with e4; injection e5 with e5; injection e6 with e6
    injection e7 with e7; injection e8 with e8; injection e9 with e9; injection e10 with e10; injection e11 with e11; injection e12 with e12
    exact ⟨⟨a0, a1, a2, a3, a4, a5, a6, a7, a8, a9, a10, a11, a12⟩, by rw [e0, e1, e2, e3, e4, e5, e6, e7, e8, e9, e10, e11, e12]; rfl, hs⟩
theorem tyBrd {d : D} (h : TyV Try.prog 49 d) : ∃ b : Brd, d = .agg (eB b) := by
  obtain ⟨n, cs, rfl, hc⟩ := TyV.agg ag49 h; clear h
  obtain ⟨hl, m, h⟩ := TyC.struct Try.underlying49 hc
  rw [co49] at hl
  match cs, hl with
  | [x0, x1, x2, x3, x4, x5, x6, x7, x8, x9, x10, x11, x12, x13, x14, x15, x16, x17, x18, x19], _ =>
    simp at h
    obtain ⟨h0, h1, h2, h3, h4⟩ := h
    obtain ⟨c, ec⟩ := tyCel h0
    obtain ⟨w, ew, _⟩ := tySpc h1
    obtain ⟨th, e2, _⟩ := tyInt h2
    obtain ⟨_, m', k⟩ := TyC.struct Try.underlying30 h3
    simp at k
    obtain ⟨t, e3, _⟩ := tyInt k.1
    obtain ⟨d, e4, _⟩ := tyInt k.2
    obtain ⟨f, e5⟩ := TyC.bool Try.underlying4 h4
    refine ⟨⟨c, w, th, t, d, f⟩, ?_⟩
    simp only [eC_eq, eS_eq, eI_eq, List.cons.injEq, and_true] at ec ew e2 e3 e4 e5
    obtain ⟨rfl, rfl, rfl⟩ := ec
    obtain ⟨rfl, rfl, rfl, rfl, rfl, rfl, rfl, rfl, rfl, rfl, rfl, rfl, rfl⟩ := ew
    subst e2 e3 e4 e5
    rfl
theorem moistTicks_abs (xs : List D) (h : TyArgs Try.prog Try.f9.params.toList xs) : Contract Try.prog 9 xs (.x (.bool true)) := by
  simp [TyArgs] at h
  obtain ⟨d, rfl, h1⟩ := h
  obtain ⟨b, rfl⟩ := tyBrd h1
  exact C_law36_MoistTicks _ _ (ticks_law b)
theorem moistMeans_abs (xs : List D) (h : TyArgs Try.prog Try.f10.params.toList xs) : Contract Try.prog 10 xs (.x (.bool true)) := by
  simp [TyArgs] at h
  obtain ⟨d, r, rfl, h1, d', rfl, h2⟩ := h
  obtain ⟨n, cs, rfl, hc⟩ := TyV.agg ag45 h1
  obtain ⟨n', cs', rfl, hc'⟩ := TyV.agg ag47 h2
  obtain ⟨x, rfl⟩ := tyCel hc
  obtain ⟨w, rfl, _⟩ := tySpc hc'
  exact C_law36_MoistMeans _ _ (means_law x w)
theorem moistBounds_abs (xs : List D) (h : TyArgs Try.prog Try.f11.params.toList xs) : Contract Try.prog 11 xs (.x (.bool true)) := by
  simp [TyArgs] at h
  obtain ⟨d, rfl, h1⟩ := h
  obtain ⟨b, rfl⟩ := tyBrd h1
  exact C_law36_MoistBounds _ _ (bounds_law b)
theorem moistFans_abs (xs : List D) (h : TyArgs Try.prog Try.f12.params.toList xs) : Contract Try.prog 12 xs (.x (.bool true)) := by
  simp [TyArgs] at h
  obtain ⟨d, rfl, h1⟩ := h
  obtain ⟨b, rfl⟩ := tyBrd h1
  exact C_law36_MoistFans _ _ (fans_law b)
theorem moistThick_abs (xs : List D) (h : TyArgs Try.prog Try.f13.params.toList xs) : Contract Try.prog 13 xs (.x (.bool true)) := by
  simp [TyArgs] at h
  obtain ⟨d, r, rfl, h1, d', rfl, h2⟩ := h
  obtain ⟨b, rfl⟩ := tyBrd h1
  obtain ⟨m, rfl, hm⟩ := tyI h2
  exact C_law36_MoistThick _ _ (thick_law b m hm)
end Go.Proofs.Ytmnipfincjpofaa
