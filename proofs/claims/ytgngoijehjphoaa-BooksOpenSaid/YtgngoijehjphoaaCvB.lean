/-
  The curve's functions of the program, run abstractly: the axes of a grid, and points.
-/
import Derived.Test.YtgngoijehjphoaaCvA
namespace Go.Proofs.Ytgngoijehjphoaa
set_option linter.unusedSimpArgs false
set_option linter.unusedVariables false
open Go Go.Abs
set_option maxHeartbeats 2000000
set_option maxRecDepth 100000

/-! ### The axes of a grid -/
def chkA (p : Option Int) : List Int → Int
  | [] => 0
  | q :: r => if inR q = false then 9 else if notUp p q = true then 11 else chkA (some q) r
def prvA (l : List Int) (i : Nat) : Option Int := if i = 0 then none else l[i - 1]?
theorem prvA_succ {l : List Int} {i : Nat} (h : i < l.length) : prvA l (i + 1) = some l[i] := by simp [prvA, h]
theorem prvA_pos {l : List Int} {i : Nat} (h0 : i ≠ 0) (h : i < l.length) : prvA l i = some (l[i - 1]'(by omega)) := by
  have : i - 1 < l.length := by omega
  simp [prvA, h0, this]
def axis (l : List Int) : Int := chkA none l
/-- A row of a grid's cells. -/
def eR (r : List Int) : List D := [.sl (r.map eI)]
@[simp] theorem eR_eq (r : List Int) : eR r = [.sl (r.map eI)] := rfl
/-! ### points -/
/-- A list that is filled from its front. -/
def filled {α : Type} (l : List α) (z : α) (i : Nat) : List α := l.take i ++ List.replicate (l.length - i) z
theorem filled_get {α : Type} {l : List α} {z : α} {i : Nat} (h : i < l.length) : (filled l z i)[i]? = some z := by
  simp only [filled]
  rw [List.getElem?_append_right (by simp; omega), List.length_take, Nat.min_eq_left (Nat.le_of_lt h), Nat.sub_self, List.getElem?_replicate, if_pos (by omega)]
theorem filled_set {α : Type} {l : List α} {z : α} {i : Nat} (h : i < l.length) : (filled l z i).set i l[i] = filled l z (i + 1) := by
  simp only [filled]
  rw [List.set_append_right _ _ (by simp; omega), List.length_take, Nat.min_eq_left (Nat.le_of_lt h), Nat.sub_self]
  have h1 : l.length - i = (l.length - (i + 1)) + 1 := by omega
  have h2 : l.take (i + 1) = l.take i ++ [l[i]] := by rw [List.take_succ_eq_append_getElem h]
  rw [h1, h2, List.replicate_succ, List.set_cons_zero, List.append_assoc]
  rfl
theorem filled_zero {α : Type} (l : List α) (z : α) : filled l z 0 = List.replicate l.length z := by simp [filled]
theorem filled_all {α : Type} {l : List α} {z : α} {i : Nat} (h : l.length ≤ i) : filled l z i = l := by
  simp [filled, List.take_of_length_le h, Nat.sub_eq_zero_of_le h]
end Go.Proofs.Ytgngoijehjphoaa
