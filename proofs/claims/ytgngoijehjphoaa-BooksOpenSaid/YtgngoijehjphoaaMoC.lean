/-
  The moisture's statements, run abstractly.
-/
import Derived.Test.YtgngoijehjphoaaMoB
namespace Go.Proofs.Ytgngoijehjphoaa
set_option linter.unusedSimpArgs false
set_option linter.unusedVariables false
open Go Go.Abs
set_option maxHeartbeats 2000000
set_option maxRecDepth 100000
/-- A board in a kiln. -/
structure Brd where
  cell : Cel
  w : Spc
  th : Int
  t : Int
  d : Int
  fan : Bool
def eB (b : Brd) : List D := eC b.cell ++ (eS b.w ++ [I b.th, I b.t, I b.d, B b.fan])
@[simp] theorem eB_eq (b : Brd) : eB b = [I b.cell.s, I b.cell.c, I b.cell.st, S b.w.name, I b.w.green, I b.w.fast, I b.w.slow, I b.w.safe, I b.w.grad, I b.w.crack, I b.w.temp, I b.w.dep, I b.w.dens, I b.w.stiff, I b.w.loss, I b.w.shrink, I b.th, I b.t, I b.d, B b.fan] := rfl
def tickB (b : Brd) : Cel := tick b.cell b.w b.th b.t b.d b.fan
def pine : Spc := ⟨ByteArray.empty, 9000, 500, 80, 600, 0, 100, 0, 0, 0, 0, 0, 0⟩
def samp : Brd := ⟨⟨9000, 9000, 0⟩, pine, 25, 200, 100, true⟩
end Go.Proofs.Ytgngoijehjphoaa
