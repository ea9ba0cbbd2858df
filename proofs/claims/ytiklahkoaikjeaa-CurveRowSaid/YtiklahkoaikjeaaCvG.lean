/-
  The examples of the chapter, and the statements that compare the program with the reference, run abstractly.
-/
import Derived.Test.YtiklahkoaikjeaaCvF
import Derived.Test.YtiklahkoaikjeaaCvS
namespace Go.Proofs.Ytiklahkoaikjeaa
set_option linter.unusedSimpArgs false
set_option linter.unusedVariables false
open Go Go.Abs
set_option maxHeartbeats 2000000
set_option maxRecDepth 100000

theorem awake_run : F_law08_awake [] = some (B true) := by
  rw [F_law08_awake_eq]
  have a1 : F_curve_Reach [.sl [[I 0, I 0], [I 10, I 5]], I 3] = some (.tup [I 6, B true]) := reach_run [(0, 0), (10, 5)] 3 (by simp)
  have a2 : F_curve_Reach [.sl [[I 0, I 0], [I 10, I 5]], I 6] = some (.tup [I 0, B false]) := reach_run [(0, 0), (10, 5)] 6 (by simp)
  have a3 : F_curve_At [.sl [[I 0, I 0], [I 10, I 5]], I 3] = some (I 1) := at_run [(0, 0), (10, 5)] 3 (by simp)
  have a4 : F_curve_At [.sl [[I 0, I 0], [I 10, I 5]], I (-4)] = some (I 0) := at_run [(0, 0), (10, 5)] (-4) (by simp)
  have a5 : F_curve_At [.sl [[I 0, I 0], [I 10, I 5]], I 20] = some (I 5) := at_run [(0, 0), (10, 5)] 20 (by simp)
  have a6 : F_curve_At [.sl [[I 0, I 10], [I 4, I 0]], I 1] = some (I 7) := at_run [(0, 10), (4, 0)] 1 (by simp)
  have a7 : F_curve_Rising [.sl [[I 0, I 0], [I 10, I 5]]] = some (B true) := rising_run [(0, 0), (10, 5)] (by simp)
  have hf : G.Fits ⟨[0, 10], [0, 100], [[0, 10], [20, 30]]⟩ := ⟨by simp, by simp, by simp, by simp⟩
  have a8 : F_curve_Value [.agg [.sl [[I 0], [I 10]], .sl [[I 0], [I 100]], .sl [[.sl [[I 0], [I 10]]], [.sl [[I 20], [I 30]]]]], I 5, I 50] = some (I 15) := value_run ⟨[0, 10], [0, 100], [[0, 10], [20, 30]]⟩ 5 50 hf
  have a9 : F_curve_Check [.sl []] = some (I 3) := check_run [] (by simp)
  have a10 : F_curve_CheckGrid [.agg [.sl [[I 0], [I 10]], .sl [[I 0], [I 100]], .sl [[.sl [[I 0], [I 10]]], [.sl [[I 20], [I 30]]]]]] = some (I 0) := checkG_run ⟨[0, 10], [0, 100], [[0, 10], [20, 30]]⟩ hf
  simp [a1, a2, a3, a4, a5, a6, a7, a8, a9, a10]
theorem lsmall_run (l : List (Int × Int)) : F_law08_small [.sl (l.map eP)] = some (B (decide ((l.length : Int) ≤ 100))) := by
  rw [F_law08_small_eq]
  simp
/-- Whether no row is long. -/
def shortR : List (List Int) → Bool
  | [] => true
  | r :: rs => if 40 < (r.length : Int) then false else shortR rs
def few (g : G) : Bool := decide ((g.xs.length : Int) ≤ 40) && (decide ((g.ys.length : Int) ≤ 40) && (decide ((g.vs.length : Int) ≤ 40) && shortR g.vs))
end Go.Proofs.Ytiklahkoaikjeaa
