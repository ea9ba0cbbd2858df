/-
  Schedules, and copies of slices, run abstractly.
-/
import Derived.Test.YtldekjlihfidlaaGreatDoorKlA
namespace Go.Proofs.YtldekjlihfidlaaGreatDoor
set_option linter.unusedSimpArgs false
set_option linter.unusedVariables false
open Go Go.Abs
set_option maxHeartbeats 4000000
set_option maxRecDepth 100000
theorem dc {α : Type} {enc : α → List D} {l : List α} {i : Nat} {x : α} {r : List α} (h : l.drop i = x :: r) : (l.map enc)[i]? = some (enc x) ∧ (i : Int) < l.length ∧ l.drop (i + 1) = r ∧ i < l.length := by
  have hi : i < l.length := by
    cases Nat.lt_or_ge i l.length with
    | inl h => exact h
    | inr h' => rw [List.drop_of_length_le h'] at h; cases h
  rw [List.drop_eq_getElem_cons hi] at h
  injection h with h1 h2
  exact ⟨by simp [hi, h1], by omega, h2, hi⟩
theorem dn {α : Type} {l : List α} {i : Nat} (h : l.drop i = []) : ¬ (i : Int) < l.length := by
  have := List.drop_eq_nil_iff.1 h
  omega
theorem mapGet {α : Type} {enc : α → List D} {l : List α} {i : Nat} (h : i < l.length) : (l.map enc)[i]? = some (enc l[i]) := by simp [h]
end Go.Proofs.YtldekjlihfidlaaGreatDoor
