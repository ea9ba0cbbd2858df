/-
  The examples of the chapter, and the statements that compare the program with the reference, run abstractly.
-/
import Derived.Test.YtcgghmmljpikdaaCvF
namespace Go.Proofs.Ytcgghmmljpikdaa
set_option linter.unusedSimpArgs false
set_option linter.unusedVariables false
open Go Go.Abs
set_option maxHeartbeats 2000000
set_option maxRecDepth 100000

theorem awake_run : F_law08_awake [] = some (B true) := by
  rw [F_law08_awake_eq]
  have a1 : F_curve_Reach [.sl [[I 0, I 0], [I 10, I 5]], I 3] = some (.tup [I 6, B true]) := reach_run [(0, 0), (10, 5)] 3 (by simp)
  have a2 : F_curve_Reach [.sl [[I 0, I 0], [I 10, I 5]], I 6] = some (.tup [I 0, B false]) := reach_run [(0, 0), (10, 5)] 6 (by simp)
  have a3 : F_curve_At [.sl [[I 0, I 0], [I 10, I 5]], I 3] = some (I 1) := at_run [(0, 0), (10, 5)] 3 (by simp)
  have a4 : F_curve_At [.sl [[I 0, I 0], [I 10, I 5]], I (-4)] = some (I 0) := at_run [(0, 0), (10, 5)] (-4) (by simp)
  have a5 : F_curve_At [.sl [[I 0, I 0], [I 10, I 5]], I 20] = some (I 5) := at_run [(0, 0), (10, 5)] 20 (by simp)
  have a6 : F_curve_At [.sl [[I 0, I 10], [I 4, I 0]], I 1] = some (I 7) := at_run [(0, 10), (4, 0)] 1 (by simp)
  have a7 : F_curve_Rising [.sl [[I 0, I 0], [I 10, I 5]]] = some (B true) := rising_run [(0, 0), (10, 5)] (by simp)
  have hf : G.Fits ⟨[0, 10], [0, 100], [[0, 10], [20, 30]]⟩ := ⟨by simp, by simp, by simp, by simp⟩
  have a8 : F_curve_Value [.agg [.sl [[I 0], [I 10]], .sl [[I 0], [I 100]], .sl [[.sl [[I 0], [I 10]]], [.sl [[I 20], [I 30]]]]], I 5, I 50] = some (I 15) := value_run ⟨[0, 10], [0, 100], [[0, 10], [20, 30]]⟩ 5 50 hf
  have a9 : F_curve_Check [.sl []] = some (I 3) := check_run [] (by simp)
  have a10 : F_curve_CheckGrid [.agg [.sl [[I 0], [I 10]], .sl [[I 0], [I 100]], .sl [[.sl [[I 0], [I 10]]], [.sl [[I 20], [I 30]]]]]] = some (I 0) := checkG_run ⟨[0, 10], [0, 100], [[0, 10], [20, 30]]⟩ hf
  simp [a1, a2, a3, a4, a5, a6, a7, a8, a9, a10]
theorem lsmall_run (l : List (Int × Int)) : F_law08_small [.sl (l.map eP)] = some (B (decide ((l.length : Int) ≤ 100))) := by
  rw [F_law08_small_eq]
  simp
theorem checks_run (l : List (Int × Int)) (hb : l.length ≤ 9223372036854775807) : F_law08_CurveChecks [.sl (l.map eP)] = some (B true) := by
  rw [F_law08_CurveChecks_eq]
  simp [lsmall_run, awake_run, check_run l hb, rcheck_run l hb, rising_run l hb, rrising_run l hb]
theorem values_run (l : List (Int × Int)) (x : Int) (hb : l.length ≤ 9223372036854775807) : F_law08_CurveValues [.sl (l.map eP), I x] = some (B true) := by
  rw [F_law08_CurveValues_eq]
  simp [lsmall_run, awake_run, at_run l x hb, rat_run l x hb]
theorem reaches_run (l : List (Int × Int)) (y : Int) (hb : l.length ≤ 9223372036854775807) : F_law08_CurveReaches [.sl (l.map eP), I y] = some (B true) := by
  rw [F_law08_CurveReaches_eq]
  simp [lsmall_run, awake_run, reach_run l y hb, rreach_run l y hb, eO]
/-- Whether no row is long. -/
def shortR : List (List Int) → Bool
  | [] => true
  | r :: rs => if 40 < (r.length : Int) then false else shortR rs
theorem few_loop (g : G) (hb : g.vs.length ≤ 40) : ∀ (n i : Nat), i ≤ g.vs.length → g.vs.length - i < n →
    L_law08_few 4 n ⟨[(0, .any), (1, .ptr 1 0), (2, .any), (3, I i)], [(1, .box 34 (eG g))]⟩ =
      if shortR (g.vs.drop i) = true then some (.ex 0, ⟨[(0, .any), (1, .any), (2, .any), (3, .any)], []⟩)
      else some (.ret, ⟨[(0, .any), (1, .any), (2, B false), (3, .any)], []⟩)
  | 0, i, _, hn => by omega
  | n + 1, i, hi, hn => by
    rw [L_law08_few_succ, R_law08_few_eq]
    by_cases h : i < g.vs.length
    · have h1 := List.getElem?_eq_getElem h
      have h3 : (i : Int) < g.vs.length := by omega
      have hw := wrapN (n := i) (by omega)
      have ih := few_loop g hb n (i + 1) (by omega) (by omega)
      simp only [Int.natCast_add, Int.natCast_one] at ih
      simp at ih
      rw [List.drop_eq_getElem_cons h, shortR]
      by_cases hm : 40 < (g.vs[i].length : Int)
      · simp [h1, h3, hw, hm]
      · simp [h1, h3, hw, hm, ih]
    · have h3 : ¬ (i : Int) < g.vs.length := by omega
      have h4 : g.vs.drop i = [] := List.drop_of_length_le (by omega)
      simp [h3, h4, shortR]
def few (g : G) : Bool := decide ((g.xs.length : Int) ≤ 40) && (decide ((g.ys.length : Int) ≤ 40) && (decide ((g.vs.length : Int) ≤ 40) && shortR g.vs))
theorem few_run (g : G) : F_law08_few [.agg (eG g)] = some (B (few g)) := by
  rw [F_law08_few_eq]
  by_cases hv : (g.vs.length : Int) ≤ 40
  · have ih := few_loop g (by omega) bigL 0 (by omega) (by have := bigL_ge; omega)
    simp at ih
    have hv' : ¬ 40 < (g.vs.length : Int) := by omega
    unfold few
    simp [ih, hv, hv']
  · have hv' : 40 < (g.vs.length : Int) := by omega
    simp [hv, hv', few]
theorem grids_run (g : G) (x y : Int) (hf : g.Fits) : F_law08_CurveGrids [.agg (eG g), I x, I y] = some (B true) := by
  rw [F_law08_CurveGrids_eq]
  have e1 := checkG_run g hf
  have e2 := rcheckG_run g hf
  have e3 := value_run g x y hf
  have e4 := rvalue_run g x y hf
  have hfew := few_run g
  simp at e1 e2 e3 e4 hfew
  simp [awake_run, e1, e2, e3, e4, hfew]
end Go.Proofs.Ytcgghmmljpikdaa
