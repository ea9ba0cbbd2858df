/-
  The statements about the air's table, its equilibrium and the next climate, run abstractly.
-/
import Derived.Test.YtmnipfincjpofaaArB
namespace Go.Proofs.Ytmnipfincjpofaa
set_option linter.unusedSimpArgs false
set_option linter.unusedVariables false
open Go Go.Abs
set_option maxHeartbeats 2000000
set_option maxRecDepth 100000
theorem emcs_law (t d : Int) : F_law35_AirEmcs [.agg [I t, I d]] = some (B true) := by
  rw [F_law35_AirEmcs_eq]
  simp [checkC_run, rcheckC_run, emc_run, remc_run, awakeA_run]
theorem nexts_law (nt nd tt td ramp : Int) (f : List Int) (hb : f.length ≤ 9223372036854775807) : F_law35_AirNexts [.agg [I nt, I nd, I tt, I td, I ramp, .sl (f.map eI)]] = some (B true) := by
  rw [F_law35_AirNexts_eq]
  simp [awakeA_run, next_run _ _ _ _ _ f hb, rnext_run _ _ _ _ _ f hb]
theorem falls_law (a b c d : Int) : F_law35_AirFalls [.agg [I a, I b], .agg [I c, I d]] = some (B true) := by
  rw [F_law35_AirFalls_eq]
  have hlo1 : (if c < a then c else a) ≤ (if a < c then c else a) := by split <;> split <;> omega
  have hlo2 : (if d < b then d else b) ≤ (if b < d then d else b) := by split <;> split <;> omega
  generalize hx : (if c < a then c else a) = x at hlo1
  generalize hx' : (if a < c then c else a) = x' at hlo1
  generalize hy : (if d < b then d else b) = y at hlo2
  generalize hy' : (if b < d then d else b) = y' at hlo2
  have e1 := emc_anti hlo1 hlo2
  have e2 := emc_anti hlo1 (Int.le_refl y')
  have e3 := emc_anti (Int.le_refl x') hlo2
  have e4 := emc_range x' y'
  have e5 := emc_range x y
  simp [emc_run, at_run', awakeA_run, hx, hx', hy, hy', e1, e2, e3, e4.1, e5.2]
/-- Whether two lists of numbers are the same. -/
theorem sameInts_loop (a : List Int) (hb : a.length ≤ 1000) : ∀ (n i : Nat), i ≤ a.length → a.length - i < n →
    L_law35_sameInts 4 n ⟨[(0, .sl (a.map eI)), (1, .sl (a.map eI)), (4, .any), (5, I i)], []⟩ = some (.ex 0, ⟨[(0, .any), (1, .any), (4, .any), (5, .any)], []⟩)
  | 0, i, _, hn => by omega
  | n + 1, i, hi, hn => by
    rw [L_law35_sameInts_succ, R_law35_sameInts_eq]
    by_cases h : i < a.length
    · have h1 := List.getElem?_eq_getElem h
      have h3 : (i : Int) < a.length := by omega
      have hw := wrapN (n := i) (by omega)
      have ih := sameInts_loop a hb n (i + 1) (by omega) (by omega)
      simp only [Int.natCast_add, Int.natCast_one] at ih
      simp [h1, h3, hw, ih]
    · have h3 : ¬ (i : Int) < a.length := by omega
      simp [h3]
theorem sameInts_run (a : List Int) (hb : a.length ≤ 1000) : F_law35_sameInts [.sl (a.map eI), .sl (a.map eI)] = some (B true) := by
  rw [F_law35_sameInts_eq]
  have ih := sameInts_loop a hb bigL 0 (by omega) (by have := bigL_ge; omega)
  simp at ih
  simp [ih]
theorem table_loop (g : G) (hr : ∀ r ∈ g.vs, r.length ≤ 1000) (hb : g.vs.length ≤ 1000) : ∀ (n i : Nat), i ≤ g.vs.length → g.vs.length - i < n →
    L_law35_AirTable 5 n ⟨[(0, .any), (1, .ptr 1 0), (2, .ptr 2 0), (3, I i)], [(1, .box 25 (oG g)), (2, .box 25 (oG g))]⟩ = some (.ex 0, ⟨[(0, .any), (1, .any), (2, .any), (3, .any)], []⟩)
  | 0, i, _, hn => by omega
  | n + 1, i, hi, hn => by
    rw [L_law35_AirTable_succ, R_law35_AirTable_eq]
    by_cases h : i < g.vs.length
    · have h1 := List.getElem?_eq_getElem h
      have h3 : (i : Int) < g.vs.length := by omega
      have hw := wrapN (n := i) (by omega)
      have ih := table_loop g hr hb n (i + 1) (by omega) (by omega)
      have hs := sameInts_run g.vs[i] (hr _ (List.getElem_mem h))
      simp only [Int.natCast_add, Int.natCast_one] at ih
      simp [oG] at ih
      simp [oG, h1, h3, hw, hs, ih]
    · have h3 : ¬ (i : Int) < g.vs.length := by omega
      simp [oG, h3]
theorem table_law : F_law35_AirTable [] = some (B true) := by
  rw [F_law35_AirTable_eq]
  have ih := table_loop tab (by decide) (by decide) bigL 0 (by omega) (by have := bigL_ge; have : tab.vs.length = 6 := rfl; omega)
  have s1 := sameInts_run tab.xs (by decide)
  have s2 := sameInts_run tab.ys (by decide)
  simp [oG] at ih
  simp [table_run, rtable_run, oG, s1, s2, ih, awakeA_run]
end Go.Proofs.Ytmnipfincjpofaa
