/-
  The inputs of the chapter's statements, and their contracts.
-/
import Derived.Test.YtcgghmmljpikdaaCvG
import Derived.Test.YtcgghmmljpikdaaAbsU
namespace Go.Proofs.Ytcgghmmljpikdaa
set_option linter.unusedSimpArgs false
set_option linter.unusedVariables false
open Go Go.Abs
set_option maxRecDepth 100000
/-- Rows that each are the cells of something. -/
theorem rows_of {α : Type} {enc : α → List D} {p : α → Prop} : ∀ (es : List (List D)), (∀ x ∈ es, ∃ a, x = enc a ∧ p a) → ∃ l : List α, es = l.map enc ∧ ∀ a ∈ l, p a
  | [], _ => ⟨[], rfl, by simp⟩
  | x :: r, h => by
    obtain ⟨a, ha, hp⟩ := h x (by simp)
    obtain ⟨l, hl, hq⟩ := rows_of r (fun y hy => h y (by simp [hy]))
    exact ⟨a :: l, by simp [ha, hl], by simpa using ⟨hp, hq⟩⟩
theorem tyInt {n : Nat} {cs : List D} (h : TyC Try.prog n 3 cs) : ∃ v : Int, cs = eI v ∧ (-9223372036854775808 ≤ v ∧ v ≤ 9223372036854775807) := TyC.i64 Try.underlying3 h
theorem tyInts {n : Nat} {cs : List D} (h : TyC Try.prog n 31 cs) : ∃ l : List Int, cs = [.sl (l.map eI)] ∧ l.length ≤ 9223372036854775807 ∧ ∀ v ∈ l, -9223372036854775808 ≤ v ∧ v ≤ 9223372036854775807 := by
  obtain ⟨es, m, rfl, hl, hx⟩ := TyC.slice Try.underlying31 h
  obtain ⟨l, rfl, hp⟩ := rows_of es (fun x hx' => tyInt (hx x hx'))
  exact ⟨l, rfl, by simpa using hl, hp⟩
theorem tyRows {n : Nat} {cs : List D} (h : TyC Try.prog n 32 cs) : ∃ l : List (List Int), cs = [.sl (l.map eR)] ∧ l.length ≤ 9223372036854775807 ∧ ∀ r ∈ l, r.length ≤ 9223372036854775807 ∧ ∀ v ∈ r, -9223372036854775808 ≤ v ∧ v ≤ 9223372036854775807 := by
  obtain ⟨es, m, rfl, hl, hx⟩ := TyC.slice Try.underlying32 h
  obtain ⟨l, rfl, hp⟩ := rows_of (enc := eR) es (fun x hx' => tyInts (hx x hx'))
  exact ⟨l, rfl, by simpa using hl, hp⟩
theorem tyPoint {n : Nat} {cs : List D} (h : TyC Try.prog n 40 cs) : ∃ p : Int × Int, cs = eP p ∧ ((-9223372036854775808 ≤ p.1 ∧ p.1 ≤ 9223372036854775807) ∧ -9223372036854775808 ≤ p.2 ∧ p.2 ≤ 9223372036854775807) := by
  obtain ⟨hl, m, h⟩ := TyC.struct Try.underlying40 h
  rw [co40] at hl
  match cs, hl with
  | [x0, x1], _ =>
    simp at h
    obtain ⟨h0, h1⟩ := h
    obtain ⟨a0, e0, b0⟩ := tyInt h0
    obtain ⟨a1, e1, b1⟩ := tyInt h1
    injection e0 with e0; injection e1 with e1
    exact ⟨(a0, a1), by rw [e0, e1]; rfl, b0, b1⟩
theorem tyPoints {d : D} (h : TyV Try.prog 22 d) : ∃ l : List (Int × Int), d = .sl (l.map eP) ∧ l.length ≤ 9223372036854775807 ∧ ∀ p ∈ l, (-9223372036854775808 ≤ p.1 ∧ p.1 ≤ 9223372036854775807) ∧ -9223372036854775808 ≤ p.2 ∧ p.2 ≤ 9223372036854775807 := by
  obtain ⟨n, h⟩ := TyV.cell ag22 h
  obtain ⟨es, m, e, hl, hx⟩ := TyC.slice Try.underlying22 h
  obtain ⟨l, rfl, hp⟩ := rows_of es (fun x hx' => tyPoint (hx x hx'))
  injection e with e
  exact ⟨l, e, by simpa using hl, hp⟩
theorem tyI {d : D} (h : TyV Try.prog 3 d) : ∃ v : Int, d = I v ∧ (-9223372036854775808 ≤ v ∧ v ≤ 9223372036854775807) := by
  obtain ⟨n, h⟩ := TyV.cell ag3 h
  obtain ⟨v, e, hv⟩ := tyInt h
  injection e with e
  exact ⟨v, e, hv⟩
theorem tyGrid {d : D} (h : TyV Try.prog 34 d) : ∃ g : G, d = .agg (eG g) ∧ g.Fits := by
  obtain ⟨n, cs, rfl, hc⟩ := TyV.agg ag34 h; clear h
  obtain ⟨hl, m, h⟩ := TyC.struct Try.underlying34 hc
  rw [co34] at hl
  match cs, hl with
  | [x0, x1, x2], _ =>
    simp at h
    obtain ⟨h0, h1, h2⟩ := h
    obtain ⟨a0, e0, b0, _⟩ := tyInts h0
    obtain ⟨a1, e1, b1, _⟩ := tyInts h1
    obtain ⟨a2, e2, b2, b3⟩ := tyRows h2
    injection e0 with e0; injection e1 with e1; injection e2 with e2
    exact ⟨⟨a0, a1, a2⟩, by rw [e0, e1, e2]; rfl, b0, b1, b2, fun r hr => (b3 r hr).1⟩
theorem curveChecks_abs (xs : List D) (h : TyArgs Try.prog Try.f3.params.toList xs) : Contract Try.prog 3 xs (.x (.bool true)) := by
  simp [TyArgs] at h
  obtain ⟨d, rfl, h1⟩ := h
  obtain ⟨l, rfl, hl, _⟩ := tyPoints h1
  exact C_law08_CurveChecks _ _ (checks_run l hl)
theorem curveValues_abs (xs : List D) (h : TyArgs Try.prog Try.f4.params.toList xs) : Contract Try.prog 4 xs (.x (.bool true)) := by
  simp [TyArgs] at h
  obtain ⟨d, r, rfl, h1, d', rfl, h2⟩ := h
  obtain ⟨l, rfl, hl, _⟩ := tyPoints h1
  obtain ⟨x, rfl, hx⟩ := tyI h2
  exact C_law08_CurveValues _ _ (values_run l x hl)
theorem curveReaches_abs (xs : List D) (h : TyArgs Try.prog Try.f5.params.toList xs) : Contract Try.prog 5 xs (.x (.bool true)) := by
  simp [TyArgs] at h
  obtain ⟨d, r, rfl, h1, d', rfl, h2⟩ := h
  obtain ⟨l, rfl, hl, _⟩ := tyPoints h1
  obtain ⟨x, rfl, hx⟩ := tyI h2
  exact C_law08_CurveReaches _ _ (reaches_run l x hl)
theorem curveGrids_abs (xs : List D) (h : TyArgs Try.prog Try.f6.params.toList xs) : Contract Try.prog 6 xs (.x (.bool true)) := by
  simp [TyArgs] at h
  obtain ⟨d, r, rfl, h1, d', r', rfl, h2, d'', rfl, h3⟩ := h
  obtain ⟨g, rfl, hg⟩ := tyGrid h1
  obtain ⟨x, rfl, hx⟩ := tyI h2
  obtain ⟨y, rfl, hy⟩ := tyI h3
  exact C_law08_CurveGrids _ _ (grids_run g x y hg)
end Go.Proofs.Ytcgghmmljpikdaa
