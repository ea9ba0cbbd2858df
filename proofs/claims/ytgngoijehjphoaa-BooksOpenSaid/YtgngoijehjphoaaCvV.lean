/-
  Inputs of plain types.
-/
import Derived.Test.YtgngoijehjphoaaCvA
import Derived.Test.YtgngoijehjphoaaAbs3
namespace Go.Proofs.Ytgngoijehjphoaa
set_option linter.unusedSimpArgs false
set_option linter.unusedVariables false
open Go Go.Abs
set_option maxRecDepth 100000
/-- Rows that each are the cells of something. -/
theorem rows_of {α : Type} {enc : α → List D} {p : α → Prop} : ∀ (es : List (List D)), (∀ x ∈ es, ∃ a, x = enc a ∧ p a) → ∃ l : List α, es = l.map enc ∧ ∀ a ∈ l, p a
  | [], _ => ⟨[], rfl, by simp⟩
  | x :: r, h => by
    obtain ⟨a, ha, hp⟩ := h x (by simp)
    obtain ⟨l, hl, hq⟩ := rows_of r (fun y hy => h y (by simp [hy]))
    exact ⟨a :: l, by simp [ha, hl], by simpa using ⟨hp, hq⟩⟩
theorem tyInt {n : Nat} {cs : List D} (h : TyC Try.prog n 3 cs) : ∃ v : Int, cs = eI v ∧ (-9223372036854775808 ≤ v ∧ v ≤ 9223372036854775807) := TyC.i64 Try.underlying3 h
theorem tyInts {n : Nat} {cs : List D} (h : TyC Try.prog n 30 cs) : ∃ l : List Int, cs = [.sl (l.map eI)] ∧ l.length ≤ 9223372036854775807 ∧ ∀ v ∈ l, -9223372036854775808 ≤ v ∧ v ≤ 9223372036854775807 := by
  obtain ⟨es, m, rfl, hl, hx⟩ := TyC.slice Try.underlying30 h
  obtain ⟨l, rfl, hp⟩ := rows_of es (fun x hx' => tyInt (hx x hx'))
  exact ⟨l, rfl, by simpa using hl, hp⟩
theorem tyI {d : D} (h : TyV Try.prog 3 d) : ∃ v : Int, d = I v ∧ (-9223372036854775808 ≤ v ∧ v ≤ 9223372036854775807) := by
  obtain ⟨n, h⟩ := TyV.cell ag3 h
  obtain ⟨v, e, hv⟩ := tyInt h
  injection e with e
  exact ⟨v, e, hv⟩
end Go.Proofs.Ytgngoijehjphoaa
