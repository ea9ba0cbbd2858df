/-
  The grids of the program, run abstractly: CheckGrid and Value.
-/
import Derived.Test.YtiklahkoaikjeaaCvB
namespace Go.Proofs.Ytiklahkoaikjeaa
set_option linter.unusedSimpArgs false
set_option linter.unusedVariables false
open Go Go.Abs
set_option maxHeartbeats 2000000
set_option maxRecDepth 100000

/-- Whether all numbers of a row may stand in a grid. -/
def allR : List Int → Bool
  | [] => true
  | n :: r => if inR n = true then allR r else false
/-- The first error of the rows of a grid with so many columns. -/
def rowsC (m : Nat) : List (List Int) → Int
  | [] => 0
  | r :: rs => if (r.length : Int) = m then (if allR r = true then rowsC m rs else 9) else 19
theorem row_loop (xs ys : List Int) (vs : List (List Int)) (j : Nat) (r : List Int) (hb : r.length ≤ 9223372036854775807) : ∀ (n i : Nat), i ≤ r.length → r.length - i < n →
    L_curve_CheckGrid 19 n ⟨[(0, .any), (1, .ptr 1 0), (2, .any), (3, .any), (4, .any), (6, .any), (8, .any), (49, .sl (vs.map eR)), (50, I vs.length), (51, I j), (61, .sl (r.map eI)), (62, I r.length), (63, I i)], [(1, .box 30 [.sl (xs.map eI), .sl (ys.map eI), .sl (vs.map eR)])]⟩ =
      if allR (r.drop i) = true then some (.ex 2, ⟨[(0, .any), (1, .ptr 1 0), (2, .any), (3, .any), (4, .any), (6, .any), (8, .any), (49, .sl (vs.map eR)), (50, I vs.length), (51, I j), (61, .any), (62, .any), (63, .any)], [(1, .box 30 [.sl (xs.map eI), .sl (ys.map eI), .sl (vs.map eR)])]⟩)
      else some (.ret, ⟨[(0, .any), (1, .any), (2, I 9), (3, .any), (4, .any), (6, .any), (8, .any), (49, .any), (50, .any), (51, .any), (61, .any), (62, .any), (63, .any)], []⟩)
  | 0, i, _, hn => by omega
  | n + 1, i, hi, hn => by
    rw [L_curve_CheckGrid_succ, R_curve_CheckGrid_eq]
    by_cases h : i < r.length
    · have h1 := List.getElem?_eq_getElem h
      have h3 : (i : Int) < r.length := by omega
      have hw := wrapN (n := i) (by omega)
      have ih := row_loop xs ys vs j r hb n (i + 1) (by omega) (by omega)
      simp only [Int.natCast_add, Int.natCast_one] at ih
      rw [List.drop_eq_getElem_cons h, allR]
      cases hr : inR r[i] <;> simp [h1, h3, hw, inRange_run, hr, ih]
    · have h3 : ¬ (i : Int) < r.length := by omega
      have h4 : r.drop i = [] := List.drop_of_length_le (by omega)
      simp [h3, h4, allR]
theorem rows_loop (xs ys : List Int) (vs : List (List Int)) (hr : ∀ r ∈ vs, r.length ≤ 9223372036854775807) (hb : vs.length ≤ 9223372036854775807) : ∀ (n i : Nat), i ≤ vs.length → vs.length - i < n →
    L_curve_CheckGrid 14 n ⟨[(0, .any), (1, .ptr 1 0), (2, .any), (3, .any), (4, .any), (6, .any), (8, .any), (49, .sl (vs.map eR)), (50, I vs.length), (51, I i), (61, .any), (62, .any), (63, .any)], [(1, .box 30 [.sl (xs.map eI), .sl (ys.map eI), .sl (vs.map eR)])]⟩ =
      if rowsC ys.length (vs.drop i) = 0 then some (.ex 0, ⟨[(0, .any), (1, .any), (2, .any), (3, .any), (4, .any), (6, .any), (8, .any), (49, .any), (50, .any), (51, .any), (61, .any), (62, .any), (63, .any)], []⟩)
      else some (.ret, ⟨[(0, .any), (1, .any), (2, I (rowsC ys.length (vs.drop i))), (3, .any), (4, .any), (6, .any), (8, .any), (49, .any), (50, .any), (51, .any), (61, .any), (62, .any), (63, .any)], []⟩)
  | 0, i, _, hn => by omega
  | n + 1, i, hi, hn => by
    rw [L_curve_CheckGrid_succ, R_curve_CheckGrid_eq]
    by_cases h : i < vs.length
    · have h1 := List.getElem?_eq_getElem h
      have h3 : (i : Int) < vs.length := by omega
      have hw := wrapN (n := i) (by omega)
      have ih := rows_loop xs ys vs hr hb n (i + 1) (by omega) (by omega)
      simp only [Int.natCast_add, Int.natCast_one] at ih
      have hl := row_loop xs ys vs i vs[i] (hr _ (List.getElem_mem h)) bigL 0 (by omega) (by have := bigL_ge; have := hr _ (List.getElem_mem h); omega)
      simp at hl
      rw [List.drop_eq_getElem_cons h, rowsC]
      by_cases hm : (vs[i].length : Int) = ys.length
      · cases ha : allR vs[i] <;> simp [ha] at hl <;> simp [h1, h3, hw, hm, hl, ih, ha] <;> simp [hm] at hl <;> simp [hl, ih, h3, hw]
      · simp [h1, h3, hw, hm]
    · have h3 : ¬ (i : Int) < vs.length := by omega
      have h4 : vs.drop i = [] := List.drop_of_length_le (by omega)
      simp [h3, h4, rowsC]
/-- A grid. -/
structure G where
  xs : List Int
  ys : List Int
  vs : List (List Int)
/-- A grid's cells. -/
def eG (g : G) : List D := [.sl (g.xs.map eI), .sl (g.ys.map eI), .sl (g.vs.map eR)]
@[simp] theorem eG_eq (g : G) : eG g = [.sl (g.xs.map eI), .sl (g.ys.map eI), .sl (g.vs.map eR)] := rfl
/-- A grid that lies in memory. -/
structure G.Fits (g : G) : Prop where
  xs : g.xs.length ≤ 9223372036854775807
  ys : g.ys.length ≤ 9223372036854775807
  vs : g.vs.length ≤ 9223372036854775807
  row : ∀ r ∈ g.vs, r.length ≤ 9223372036854775807
def checkG (g : G) : Int :=
  if g.xs = [] then 3 else if g.ys = [] then 3 else if 16 < (g.xs.length : Int) then 4 else if 16 < (g.ys.length : Int) then 4
  else if axis g.xs ≠ 0 then axis g.xs else if axis g.ys ≠ 0 then axis g.ys else if (g.vs.length : Int) ≠ g.xs.length then 19 else rowsC g.ys.length g.vs
theorem checkG_run (g : G) (hf : g.Fits) : F_curve_CheckGrid [.agg (eG g)] = some (I (checkG g)) := by
  rw [F_curve_CheckGrid_eq]
  have ih := rows_loop g.xs g.ys g.vs hf.row hf.vs bigL 0 (by omega) (by have := bigL_ge; have := hf.vs; omega)
  simp at ih
  unfold checkG
  simp [axis_run _ hf.xs, axis_run _ hf.ys, ih]
  repeat' split
  all_goals (first | rfl | omega | simp_all)
end Go.Proofs.Ytiklahkoaikjeaa
