/-
  The moisture's statements, run abstractly.
-/
import Derived.Test.YtmnipfincjpofaaMoB
namespace Go.Proofs.Ytmnipfincjpofaa
set_option linter.unusedSimpArgs false
set_option linter.unusedVariables false
open Go Go.Abs
set_option maxHeartbeats 2000000
set_option maxRecDepth 100000
/-- A board in a kiln. -/
structure Brd where
  cell : Cel
  w : Spc
  th : Int
  t : Int
  d : Int
  fan : Bool
def eB (b : Brd) : List D := eC b.cell ++ (eS b.w ++ [I b.th, I b.t, I b.d, B b.fan])
@[simp] theorem eB_eq (b : Brd) : eB b = [I b.cell.s, I b.cell.c, I b.cell.st, S b.w.name, I b.w.green, I b.w.fast, I b.w.slow, I b.w.safe, I b.w.grad, I b.w.crack, I b.w.temp, I b.w.dep, I b.w.dens, I b.w.stiff, I b.w.loss, I b.w.shrink, I b.th, I b.t, I b.d, B b.fan] := rfl
def tickB (b : Brd) : Cel := tick b.cell b.w b.th b.t b.d b.fan
theorem ltick_run (b : Brd) : F_law36_tick [.agg (eB b)] = some (.agg (eC (tickB b))) := by
  rw [F_law36_tick_eq]
  have h := tick_run b.cell b.w b.th b.t b.d b.fan
  simp at h
  simp [h, tickB]
def pine : Spc := ⟨ByteArray.empty, 9000, 500, 80, 600, 0, 100, 0, 0, 0, 0, 0, 0⟩
def samp : Brd := ⟨⟨9000, 9000, 0⟩, pine, 25, 200, 100, true⟩
theorem sample_run : F_law36_sample [] = some (.agg (eB samp)) := by
  rw [F_law36_sample_eq]
  simp [samp, pine]
theorem awakeM_run : F_law36_awake [] = some (B true) := by
  rw [F_law36_awake_eq]
  have e1 : tickB samp = ⟨8613, 8997, 0⟩ := rfl
  have e2 : tickB ⟨⟨2000, 3000, 5⟩, pine, 25, 200, 100, false⟩ = ⟨2000, 2992, 397⟩ := rfl
  have t1 := ltick_run samp
  have t2 := ltick_run ⟨⟨2000, 3000, 5⟩, pine, 25, 200, 100, false⟩
  rw [e1] at t1
  rw [e2] at t2
  have g := green_run pine
  have m := mean_run ⟨8613, 8997, 0⟩
  have m' : mean ⟨8613, 8997, 0⟩ = 8869 := rfl
  have r := grad_run ⟨8613, 8997, 0⟩
  have r' : grad ⟨8613, 8997, 0⟩ = 384 := rfl
  have c := cracks_run ⟨2000, 2992, 397⟩ pine
  have c' : cracks ⟨2000, 2992, 397⟩ pine = 3 := rfl
  have k := checkM_run ⟨2000, 2992, 397⟩
  have k' : checkM ⟨2000, 2992, 397⟩ = 0 := rfl
  have q := checkM_run ⟨-1, 0, 0⟩
  have q' : checkM ⟨-1, 0, 0⟩ = 25 := rfl
  rw [m'] at m
  rw [r'] at r
  rw [c'] at c
  rw [k'] at k
  rw [q'] at q
  simp [samp, pine] at t1 t2 g m r c k q
  simp [sample_run, samp, pine, t1, t2, g, m, r, c, k, q]
theorem ticks_law (b : Brd) : F_law36_MoistTicks [.agg (eB b)] = some (B true) := by
  rw [F_law36_MoistTicks_eq]
  have h1 := ltick_run b
  have h2 := rtick_run b.cell b.w b.th b.t b.d b.fan
  simp at h1 h2
  simp [h1, h2, tickB, awakeM_run]
theorem means_law (x : Cel) (w : Spc) : F_law36_MoistMeans [.agg (eC x), .agg (eS w)] = some (B true) := by
  rw [F_law36_MoistMeans_eq]
  have a1 := checkM_run x
  have a2 := rcheckM_run x
  have a3 := green_run w
  have a4 := rgreen_run w
  have a5 := mean_run x
  have a6 := rmean_run x
  have a7 := grad_run x
  have a8 := rgrad_run x
  have a9 := cracks_run x w
  have b1 := rcracks_run x w
  simp at a1 a2 a3 a4 a5 a6 a7 a8 a9 b1
  simp [a1, a2, a3, a4, a5, a6, a7, a8, a9, b1, awakeM_run]
end Go.Proofs.Ytmnipfincjpofaa
