/-
  The reference's grids, run abstractly: they compute what the program computes.
-/
import Derived.Test.YtdefohgkniglpaaGreatDoorCvE
namespace Go.Proofs.YtdefohgkniglpaaGreatDoor
set_option linter.unusedSimpArgs false
set_option linter.unusedVariables false
open Go Go.Abs
set_option maxHeartbeats 2000000
set_option maxRecDepth 100000

theorem numbers_loop (l : List Int) (hb : l.length ≤ 9223372036854775807) : ∀ (n i : Nat), i ≤ l.length → l.length - i < n →
    L_ref08_numbers 2 n ⟨[(0, .sl (l.map eI)), (2, .any), (3, I i)], []⟩ =
      if chkA (prvA l i) (l.drop i) = 0 then some (.ex 0, ⟨[(0, .any), (2, .any), (3, .any)], []⟩)
      else some (.ret, ⟨[(0, .any), (2, I (chkA (prvA l i) (l.drop i))), (3, .any)], []⟩)
  | 0, i, _, hn => by omega
  | n + 1, i, hi, hn => by
    rw [L_ref08_numbers_succ, R_ref08_numbers_eq]
    by_cases h : i < l.length
    · have h1 := List.getElem?_eq_getElem h
      have h3 : (i : Int) < l.length := by omega
      have hw := wrapN (n := i) (by omega)
      have ih := numbers_loop l hb n (i + 1) (by omega) (by omega)
      rw [List.drop_eq_getElem_cons h, chkA]
      rw [prvA_succ h] at ih
      simp only [Int.natCast_add, Int.natCast_one] at ih
      by_cases h0 : i = 0
      · have h7 : ¬ 0 < i := by omega
        have hp : prvA l i = none := by simp [prvA, h0]
        simp [h1, h3, small_run, hw, h7, ih, hp]
        cases inR l[i] <;> simp
      · have h5 := wrapP h0 (by omega)
        have h6 := List.getElem?_eq_getElem (l := l) (i := i - 1) (by omega)
        have h7 : 0 < i := by omega
        rw [prvA_pos h0 h]
        simp [h1, h3, small_run, hw, h5, h6, h7, ih]
        cases inR l[i] <;> simp
        split <;> simp
    · have h3 : ¬ (i : Int) < l.length := by omega
      have h4 : l.drop i = [] := List.drop_of_length_le (by omega)
      simp [h3, h4, chkA]
theorem numbers_run (l : List Int) (hb : l.length ≤ 9223372036854775807) : F_ref08_numbers [.sl (l.map eI)] = some (I (axis l)) := by
  rw [F_ref08_numbers_eq]
  have ih := numbers_loop l hb bigL 0 (by omega) (by have := bigL_ge; omega)
  simp [prvA] at ih
  simp [ih, axis]
  exact Eq.symm
theorem rrow_loop (g : G) (j : Nat) (r : List Int) (hj : g.vs[j]? = some r) (hb : r.length ≤ 9223372036854775807) : ∀ (n i : Nat), i ≤ r.length → r.length - i < n →
    L_ref08_CheckGrid 19 n ⟨[(0, .any), (1, .ptr 1 0), (2, .any), (3, .any), (4, .any), (5, I j), (6, I i)], [(1, .box 168 (eG g))]⟩ =
      if allR (r.drop i) = true then some (.ex 2, ⟨[(0, .any), (1, .ptr 1 0), (2, .any), (3, .any), (4, .any), (5, I j), (6, .any)], [(1, .box 168 (eG g))]⟩)
      else some (.ret, ⟨[(0, .any), (1, .any), (2, I 9), (3, .any), (4, .any), (5, .any), (6, .any)], []⟩)
  | 0, i, _, hn => by omega
  | n + 1, i, hi, hn => by
    rw [L_ref08_CheckGrid_succ, R_ref08_CheckGrid_eq]
    by_cases h : i < r.length
    · have h1 := List.getElem?_eq_getElem h
      have h3 : (i : Int) < r.length := by omega
      have hw := wrapN (n := i) (by omega)
      have ih := rrow_loop g j r hj hb n (i + 1) (by omega) (by omega)
      simp only [Int.natCast_add, Int.natCast_one] at ih
      simp at ih
      rw [List.drop_eq_getElem_cons h, allR]
      cases hr : inR r[i] <;> simp [hj, h1, h3, hw, small_run, hr, ih]
    · have h3 : ¬ (i : Int) < r.length := by omega
      have h4 : r.drop i = [] := List.drop_of_length_le (by omega)
      simp [hj, h3, h4, allR]
theorem rrows_loop (g : G) (hf : g.Fits) : ∀ (n i : Nat), i ≤ g.vs.length → g.vs.length - i < n →
    L_ref08_CheckGrid 14 n ⟨[(0, .any), (1, .ptr 1 0), (2, .any), (3, .any), (4, .any), (5, I i), (6, .any)], [(1, .box 168 (eG g))]⟩ =
      if rowsC g.ys.length (g.vs.drop i) = 0 then some (.ex 0, ⟨[(0, .any), (1, .any), (2, .any), (3, .any), (4, .any), (5, .any), (6, .any)], []⟩)
      else some (.ret, ⟨[(0, .any), (1, .any), (2, I (rowsC g.ys.length (g.vs.drop i))), (3, .any), (4, .any), (5, .any), (6, .any)], []⟩)
  | 0, i, _, hn => by omega
  | n + 1, i, hi, hn => by
    rw [L_ref08_CheckGrid_succ, R_ref08_CheckGrid_eq]
    have hb := hf.vs
    by_cases h : i < g.vs.length
    · have h1 := List.getElem?_eq_getElem h
      have h3 : (i : Int) < g.vs.length := by omega
      have hw := wrapN (n := i) (by omega)
      have ih := rrows_loop g hf n (i + 1) (by omega) (by omega)
      simp only [Int.natCast_add, Int.natCast_one] at ih
      have hl := rrow_loop g i g.vs[i] h1 (hf.row _ (List.getElem_mem h)) bigL 0 (by omega) (by have := bigL_ge; have := hf.row _ (List.getElem_mem h); omega)
      simp at hl ih
      rw [List.drop_eq_getElem_cons h, rowsC]
      by_cases hm : (g.vs[i].length : Int) = g.ys.length
      · cases ha : allR g.vs[i] <;> simp [ha] at hl <;> simp [h1, h3, hw, hm, hl, ih, ha]
      · simp [h1, h3, hw, hm]
    · have h3 : ¬ (i : Int) < g.vs.length := by omega
      have h4 : g.vs.drop i = [] := List.drop_of_length_le (by omega)
      simp [h3, h4, rowsC]
theorem rcheckG_run (g : G) (hf : g.Fits) : F_ref08_CheckGrid [.agg (eG g)] = some (I (checkG g)) := by
  rw [F_ref08_CheckGrid_eq]
  have ih := rrows_loop g hf bigL 0 (by omega) (by have := bigL_ge; have := hf.vs; omega)
  simp at ih
  unfold checkG
  simp [numbers_run _ hf.xs, numbers_run _ hf.ys, ih]
  repeat' split
  all_goals (first | rfl | omega | simp_all)
theorem Row_loop (g : G) (j : Nat) (r : List Int) (hj : g.vs[j]? = some r) (hr : r.length = g.ys.length) (hb : g.ys.length ≤ 1000) : ∀ (n i : Nat), i ≤ g.ys.length → g.ys.length - i < n →
    L_ref08_Row 3 n ⟨[(0, .any), (1, I j), (2, .ptr 2 0), (4, .any), (5, .row 5), (6, I i)], [(2, .box 168 (eG g)), (5, .row 177 2 true (((g.ys.zip r).take i).map eP))]⟩ =
      some (.ex 0, ⟨[(0, .any), (1, .any), (2, .any), (4, .any), (5, .row 5), (6, .any)], [(5, .row 177 2 true ((g.ys.zip r).map eP))]⟩)
  | 0, i, _, hn => by omega
  | n + 1, i, hi, hn => by
    rw [L_ref08_Row_succ, R_ref08_Row_eq]
    by_cases h : i < g.ys.length
    · have h1 := List.getElem?_eq_getElem h
      have h2 := List.getElem?_eq_getElem (l := r) (i := i) (by omega)
      have h3 : (i : Int) < g.ys.length := by omega
      have hw := wrapN (n := i) (by omega)
      have ih := Row_loop g j r hj hr hb n (i + 1) (by omega) (by omega)
      have ht : ((g.ys.zip r).take (i + 1)).map eP = ((g.ys.zip r).take i).map eP ++ [[I g.ys[i], I (r[i]'(by omega))]] := by
        rw [List.take_succ_eq_append_getElem (by simp; omega)]
        simp
      rw [ht] at ih
      have hl : (((g.ys.zip r).take i).map eP).length = i := by simp; omega
      generalize ((g.ys.zip r).take i).map eP = es at hl ih ⊢
      simp only [Int.natCast_add, Int.natCast_one] at ih
      simp at ih
      have hbnd : (i + 1) * 17 ≤ 140737488355328 := by omega
      simp [hj, h1, h2, h3, hw, hl, hbnd, ih]
    · have h3 : ¬ (i : Int) < g.ys.length := by omega
      have h4 : (g.ys.zip r).take i = g.ys.zip r := List.take_of_length_le (by simp; omega)
      simp [h3, h4]
theorem Row_run (g : G) (j : Nat) (r : List Int) (hj : g.vs[j]? = some r) (hr : r.length = g.ys.length) (hb : g.ys.length ≤ 1000) : F_ref08_Row [.agg (eG g), I j] = some (.own true ((g.ys.zip r).map eP)) := by
  rw [F_ref08_Row_eq]
  have ih := Row_loop g j r hj hr hb bigL 0 (by omega) (by have := bigL_ge; omega)
  simp at ih
  simp [ih]
theorem rvalue_loop (g : G) (x y : Int) (hg : GoodG g) : ∀ (n i : Nat), i ≤ g.xs.length → g.xs.length - i < n →
    L_ref08_Value 5 n ⟨[(0, .any), (1, I x), (2, I y), (3, .ptr 3 0), (6, .any), (7, .row 7), (8, I i)], [(3, .box 168 (eG g)), (7, .row 177 2 true (((g.xs.zip (g.vs.map (rowAt g y))).take i).map eP))]⟩ =
      some (.ex 0, ⟨[(0, .any), (1, I x), (2, .any), (3, .any), (6, .any), (7, .row 7), (8, .any)], [(7, .row 177 2 true ((g.xs.zip (g.vs.map (rowAt g y))).map eP))]⟩)
  | 0, i, _, hn => by omega
  | n + 1, i, hi, hn => by
    rw [L_ref08_Value_succ, R_ref08_Value_eq]
    have hlv := hg.lv
    have hlx := hg.lx
    have hly := hg.ly
    by_cases h : i < g.xs.length
    · have h1 := List.getElem?_eq_getElem h
      have h2 := List.getElem?_eq_getElem (l := g.vs) (i := i) (by omega)
      have h3 : (i : Int) < g.xs.length := by omega
      have hw := wrapN (n := i) (by omega)
      have hrow := hg.row _ (List.getElem_mem (l := g.vs) (n := i) (by omega))
      have hR := Row_run g i _ h2 hrow.1 (by omega)
      have ha := rat_run (g.ys.zip (g.vs[i]'(by omega))) y (by simp; omega)
      have ih := rvalue_loop g x y hg n (i + 1) (by omega) (by omega)
      have ht : ((g.xs.zip (g.vs.map (rowAt g y))).take (i + 1)).map eP = ((g.xs.zip (g.vs.map (rowAt g y))).take i).map eP ++ [[I g.xs[i], I (rowAt g y (g.vs[i]'(by omega)))]] := by
        rw [List.take_succ_eq_append_getElem (by simp; omega)]
        simp
      rw [ht] at ih
      have hl : (((g.xs.zip (g.vs.map (rowAt g y))).take i).map eP).length = i := by simp; omega
      generalize ((g.xs.zip (g.vs.map (rowAt g y))).take i).map eP = es at hl ih ⊢
      simp only [Int.natCast_add, Int.natCast_one] at ih
      simp [rowAt] at ih
      simp at hR
      have hbnd : (i + 1) * 17 ≤ 140737488355328 := by omega
      simp [h1, h2, h3, hw, hl, hbnd, ih, hR, ha]
    · have h3 : ¬ (i : Int) < g.xs.length := by omega
      have h4 : (g.xs.zip (g.vs.map (rowAt g y))).take i = g.xs.zip (g.vs.map (rowAt g y)) := List.take_of_length_le (by simp; omega)
      simp [h3, h4]
theorem rvalue_run (g : G) (x y : Int) (hf : g.Fits) : F_ref08_Value [.agg (eG g), I x, I y] = some (I (value g x y)) := by
  rw [F_ref08_Value_eq]
  have hrun := rcheckG_run g hf
  simp at hrun
  by_cases hc : checkG g = 0
  · have hg := (goodG_iff g).1 hc
    have hlx := hg.lx
    have ih := rvalue_loop g x y hg bigL 0 (by omega) (by have := bigL_ge; omega)
    have ha := rat_run (g.xs.zip (g.vs.map (rowAt g y))) x (by simp; omega)
    simp at ih
    simp [hrun, hc, ih, value, ha]
  · simp [hrun, hc, value]
end Go.Proofs.YtdefohgkniglpaaGreatDoor
