/-
  The grids of the program, run abstractly: CheckGrid and Value.
-/
import Derived.Test.YtgngoijehjphoaaCvB
namespace Go.Proofs.Ytgngoijehjphoaa
set_option linter.unusedSimpArgs false
set_option linter.unusedVariables false
open Go Go.Abs
set_option maxHeartbeats 2000000
set_option maxRecDepth 100000

/-- Whether all numbers of a row may stand in a grid. -/
def allR : List Int → Bool
  | [] => true
  | n :: r => if inR n = true then allR r else false
/-- The first error of the rows of a grid with so many columns. -/
def rowsC (m : Nat) : List (List Int) → Int
  | [] => 0
  | r :: rs => if (r.length : Int) = m then (if allR r = true then rowsC m rs else 9) else 19
/-- A grid. -/
structure G where
  xs : List Int
  ys : List Int
  vs : List (List Int)
/-- A grid's cells. -/
def eG (g : G) : List D := [.sl (g.xs.map eI), .sl (g.ys.map eI), .sl (g.vs.map eR)]
@[simp] theorem eG_eq (g : G) : eG g = [.sl (g.xs.map eI), .sl (g.ys.map eI), .sl (g.vs.map eR)] := rfl
/-- A grid that lies in memory. -/
structure G.Fits (g : G) : Prop where
  xs : g.xs.length ≤ 9223372036854775807
  ys : g.ys.length ≤ 9223372036854775807
  vs : g.vs.length ≤ 9223372036854775807
  row : ∀ r ∈ g.vs, r.length ≤ 9223372036854775807
def checkG (g : G) : Int :=
  if g.xs = [] then 3 else if g.ys = [] then 3 else if 16 < (g.xs.length : Int) then 4 else if 16 < (g.ys.length : Int) then 4
  else if axis g.xs ≠ 0 then axis g.xs else if axis g.ys ≠ 0 then axis g.ys else if (g.vs.length : Int) ≠ g.xs.length then 19 else rowsC g.ys.length g.vs
end Go.Proofs.Ytgngoijehjphoaa
