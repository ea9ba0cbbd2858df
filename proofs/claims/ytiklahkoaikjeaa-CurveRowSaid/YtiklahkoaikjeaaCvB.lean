/-
  The curve's functions of the program, run abstractly: the axes of a grid, and points.
-/
import Derived.Test.YtiklahkoaikjeaaCvA
namespace Go.Proofs.Ytiklahkoaikjeaa
set_option linter.unusedSimpArgs false
set_option linter.unusedVariables false
open Go Go.Abs
set_option maxHeartbeats 2000000
set_option maxRecDepth 100000

/-! ### The axes of a grid -/
def chkA (p : Option Int) : List Int → Int
  | [] => 0
  | q :: r => if inR q = false then 9 else if notUp p q = true then 11 else chkA (some q) r
def prvA (l : List Int) (i : Nat) : Option Int := if i = 0 then none else l[i - 1]?
theorem prvA_succ {l : List Int} {i : Nat} (h : i < l.length) : prvA l (i + 1) = some l[i] := by simp [prvA, h]
theorem prvA_pos {l : List Int} {i : Nat} (h0 : i ≠ 0) (h : i < l.length) : prvA l i = some (l[i - 1]'(by omega)) := by
  have : i - 1 < l.length := by omega
  simp [prvA, h0, this]
theorem axis_loop (l : List Int) (hb : l.length ≤ 9223372036854775807) : ∀ (n i : Nat), i ≤ l.length → l.length - i < n →
    L_curve_checkAxis 2 n ⟨[(0, .sl (l.map eI)), (2, .any), (3, .any), (4, .any), (5, .sl (l.map eI)), (6, I l.length), (7, I i)], []⟩ =
      if chkA (prvA l i) (l.drop i) = 0 then some (.ex 0, ⟨[(0, .any), (2, .any), (3, .any), (4, .any), (5, .any), (6, .any), (7, .any)], []⟩)
      else some (.ret, ⟨[(0, .any), (2, I (chkA (prvA l i) (l.drop i))), (3, .any), (4, .any), (5, .any), (6, .any), (7, .any)], []⟩)
  | 0, i, _, hn => by omega
  | n + 1, i, hi, hn => by
    rw [L_curve_checkAxis_succ, R_curve_checkAxis_eq]
    by_cases h : i < l.length
    · have h1 := List.getElem?_eq_getElem h
      have h3 : (i : Int) < l.length := by omega
      have hw := wrapN (n := i) (by omega)
      have ih := axis_loop l hb n (i + 1) (by omega) (by omega)
      rw [List.drop_eq_getElem_cons h, chkA]
      rw [prvA_succ h] at ih
      simp only [Int.natCast_add, Int.natCast_one] at ih
      by_cases h0 : i = 0
      · have h7 : ¬ 0 < i := by omega
        have hp : prvA l i = none := by simp [prvA, h0]
        simp [h1, h3, inRange_run, hw, h7, ih, hp]
        cases inR l[i] <;> simp
      · have h5 := wrapP h0 (by omega)
        have h6 := List.getElem?_eq_getElem (l := l) (i := i - 1) (by omega)
        have h7 : 0 < i := by omega
        rw [prvA_pos h0 h]
        simp [h1, h3, inRange_run, hw, h5, h6, h7, ih]
        cases inR l[i] <;> simp
        split <;> simp
    · have h3 : ¬ (i : Int) < l.length := by omega
      have h4 : l.drop i = [] := List.drop_of_length_le (by omega)
      simp [h3, h4, chkA]
def axis (l : List Int) : Int := chkA none l
theorem axis_run (l : List Int) (hb : l.length ≤ 9223372036854775807) : F_curve_checkAxis [.sl (l.map eI)] = some (I (axis l)) := by
  rw [F_curve_checkAxis_eq]
  have ih := axis_loop l hb bigL 0 (by omega) (by have := bigL_ge; omega)
  simp [prvA] at ih
  simp [ih, axis]
  exact Eq.symm
/-- A row of a grid's cells. -/
def eR (r : List Int) : List D := [.sl (r.map eI)]
@[simp] theorem eR_eq (r : List Int) : eR r = [.sl (r.map eI)] := rfl
/-! ### points -/
/-- A list that is filled from its front. -/
def filled {α : Type} (l : List α) (z : α) (i : Nat) : List α := l.take i ++ List.replicate (l.length - i) z
theorem filled_get {α : Type} {l : List α} {z : α} {i : Nat} (h : i < l.length) : (filled l z i)[i]? = some z := by
  simp only [filled]
  rw [List.getElem?_append_right (by simp; omega), List.length_take, Nat.min_eq_left (Nat.le_of_lt h), Nat.sub_self, List.getElem?_replicate, if_pos (by omega)]
theorem filled_set {α : Type} {l : List α} {z : α} {i : Nat} (h : i < l.length) : (filled l z i).set i l[i] = filled l z (i + 1) := by
  simp only [filled]
  rw [List.set_append_right _ _ (by simp; omega), List.length_take, Nat.min_eq_left (Nat.le_of_lt h), Nat.sub_self]
  have h1 : l.length - i = (l.length - (i + 1)) + 1 := by omega
  have h2 : l.take (i + 1) = l.take i ++ [l[i]] := by rw [List.take_succ_eq_append_getElem h]
  rw [h1, h2, List.replicate_succ, List.set_cons_zero, List.append_assoc]
  rfl
theorem filled_zero {α : Type} (l : List α) (z : α) : filled l z 0 = List.replicate l.length z := by simp [filled]
theorem filled_all {α : Type} {l : List α} {z : α} {i : Nat} (h : l.length ≤ i) : filled l z i = l := by
  simp [filled, List.take_of_length_le h, Nat.sub_eq_zero_of_le h]
theorem points_loop (xs ys : List Int) (hl : xs.length ≤ ys.length) (hb : xs.length ≤ 1000) : ∀ (n i : Nat), i ≤ xs.length → xs.length - i < n →
    L_curve_points 3 n ⟨[(0, .sl (xs.map eI)), (1, .sl (ys.map eI)), (4, .any), (5, .row 5), (6, .any), (11, I xs.length), (12, I i)], [(5, .row 32 2 true (filled ((xs.zip ys).map eP) [I 0, I 0] i))]⟩ =
      some (.ex 0, ⟨[(0, .any), (1, .any), (4, .any), (5, .row 5), (6, .any), (11, .any), (12, .any)], [(5, .row 32 2 true ((xs.zip ys).map eP))]⟩)
  | 0, i, _, hn => by omega
  | n + 1, i, hi, hn => by
    rw [L_curve_points_succ, R_curve_points_eq]
    by_cases h : i < xs.length
    · have h1 := List.getElem?_eq_getElem h
      have h2 := List.getElem?_eq_getElem (l := ys) (i := i) (by omega)
      have h3 : (i : Int) < xs.length := by omega
      have hw := wrapN (n := i) (by omega)
      have ih := points_loop xs ys hl hb n (i + 1) (by omega) (by omega)
      simp only [Int.natCast_add, Int.natCast_one] at ih
      have hi : i < ((xs.zip ys).map eP).length := by simp; omega
      have hg := filled_get (z := [I 0, I 0]) hi
      have hs := filled_set (z := [I 0, I 0]) hi
      simp only [List.getElem_map, List.getElem_zip, eP_eq] at hs
      generalize filled ((xs.zip ys).map eP) [I 0, I 0] i = es at hg hs ⊢
      simp [h1, h2, h3, hw, hg, hs, ih]
    · have h3 : ¬ (i : Int) < xs.length := by omega
      have h5 := filled_all (l := (xs.zip ys).map eP) (z := [I 0, I 0]) (i := i) (by simp; omega)
      simp [h3, h5]
theorem points_run (xs ys : List Int) (hl : xs.length ≤ ys.length) (hb : xs.length ≤ 1000) : F_curve_points [.sl (xs.map eI), .sl (ys.map eI)] = some (.own true ((xs.zip ys).map eP)) := by
  rw [F_curve_points_eq]
  have h1 : 16 * (xs.length : Int) ≤ 281474976710656 := by omega
  have h2 : (xs.length : Int) ≤ 1000000000000000000 := by omega
  have ih := points_loop xs ys hl hb bigL 0 (by omega) (by have := bigL_ge; omega)
  have h3 : min xs.length ys.length = xs.length := by omega
  simp [filled_zero, h3] at ih
  simp [h1, h2, ih]
end Go.Proofs.Ytiklahkoaikjeaa
