/-
  Lengths in a list, and the defects of a board inside it, run abstractly.
-/
import Derived.Test.YtldekjlihfidlaaGreatDoorFtM
namespace Go.Proofs.YtldekjlihfidlaaGreatDoor
set_option linter.unusedSimpArgs false
set_option linter.unusedVariables false
open Go Go.Abs
set_option maxHeartbeats 8000000
set_option maxRecDepth 100000
theorem inI_eq (v : Int) : ∀ l : List Int, inI v l = inL v l
  | [] => by simp [inI, inL]
  | x :: r => by
    rw [show inI v (x :: r) = (if x = v then true else inI v r) from rfl, show inL v (x :: r) = (if v = x then true else inL v r) from rfl, inI_eq v r]
    by_cases h : x = v
    · simp [h]
    · have h' : ¬ v = x := fun e => h e.symm
      simp [h, h']
theorem has_loop (l : List Int) (v : Int) (hl : l.length ≤ 1000000) : ∀ (n i : Nat) (r : List Int), l.drop i = r → r.length < n →
    L_ref30_has 2 n ⟨[(0, .sl (l.map eI)), (1, I v), (4, .any), (5, I i)], []⟩ =
      if inI v r = true then some (.ret, ⟨[(0, .any), (1, .any), (4, B true), (5, .any)], []⟩)
      else some (.ex 0, ⟨[(0, .any), (1, .any), (4, .any), (5, .any)], []⟩) := by
  refine lind l _ ?_ ?_
  · intro n i hr
    rw [L_ref30_has_succ, R_ref30_has_eq]
    simp [dn hr, inI]
  · intro n i x r hr hi ih
    rw [L_ref30_has_succ, R_ref30_has_eq]
    obtain ⟨h1, h3, hr', _⟩ := dc (enc := eI) hr
    have hw := wrapN (n := i) (by omega)
    simp at ih
    by_cases h : x = v
    · simp [h1, h3, inI, h]
    · simp [h1, h3, inI, h, hw, ih]
theorem has_run (l : List Int) (v : Int) (hl : l.length ≤ 1000000) : F_ref30_has [.sl (l.map eI), I v] = some (B (inI v l)) := by
  rw [F_ref30_has_eq]
  have ih := has_loop l v hl bigL 0 l rfl (by have := bigL_ge; omega)
  simp at ih
  cases hc : inI v l
  · simp [hc] at ih
    simp [ih]
  · simp [hc] at ih
    simp [ih]
end Go.Proofs.YtldekjlihfidlaaGreatDoor
