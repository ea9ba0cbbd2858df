/-
  The air's functions, run abstractly.
-/
import Derived.Test.YtgngoijehjphoaaCvF
import Derived.Test.YtgngoijehjphoaaCvM
namespace Go.Proofs.Ytgngoijehjphoaa
set_option linter.unusedSimpArgs false
set_option linter.unusedVariables false
open Go Go.Abs
set_option maxHeartbeats 2000000
set_option maxRecDepth 100000
/-- The table of the air. -/
def tab : G := ⟨[200, 400, 600, 800, 1000, 1200], [0, 20, 50, 100, 200, 300, 400],
  [[2800, 2200, 1750, 1250, 750, 480, 390], [2700, 2100, 1650, 1150, 680, 440, 350], [2600, 2000, 1550, 1060, 610, 400, 310], [2500, 1900, 1450, 980, 550, 360, 280], [2400, 1800, 1360, 900, 500, 330, 250], [2300, 1700, 1270, 830, 450, 300, 220]]⟩
/-- A grid's cells, as a function hands them back. -/
def oG (g : G) : List D := [.own true (g.xs.map eI), .own true (g.ys.map eI), .own false (g.vs.map eR)]
theorem tab_fits : tab.Fits := ⟨by simp [tab], by simp [tab], by simp [tab], by simp [tab]⟩
def emc (t d : Int) : Int := value tab t d
def checkC (t d : Int) : Int := if t < 0 then 9 else if 1200 < t then 9 else if d < 0 then 9 else if 400 < d then 9 else 0
/-- The nearest number of a range. -/
def clampN (n lo hi : Int) : Int := if hi < lo then lo else if n < lo then lo else if hi < n then hi else n
/-- Whether a list has a number. -/
def inL (n : Int) : List Int → Bool
  | [] => false
  | m :: r => if n = m then true else inL n r
def idx (n : Int) (i : Nat) : List Int → Int
  | [] => -1
  | m :: r => if n = m then i else idx n (i + 1) r
theorem idx_inL (n : Int) : ∀ (l : List Int) (i : Nat), decide (0 ≤ idx n i l) = inL n l
  | [], i => by simp [idx, inL]
  | m :: r, i => by
    rw [idx, inL]
    split
    · simp
    · exact idx_inL n r (i + 1)
/-- Where the air goes: the target, but for what the faults leave to the outside. -/
def goalT (t : Int) (f : List Int) : Int := if inL 1 f = true then 200 else t
def goalD (d : Int) (f : List Int) : Int := if inL 3 f = true then 100 else d
theorem clampN_bnd (n hi : Int) (h : 0 ≤ hi) : 0 ≤ clampN n 0 hi ∧ clampN n 0 hi ≤ hi := by
  unfold clampN
  repeat' split
  all_goals omega
theorem clampN_at {n lo hi : Int} (h : lo ≤ hi) : lo ≤ clampN n lo hi ∧ clampN n lo hi ≤ hi ∧ (lo ≤ n → n ≤ hi → clampN n lo hi = n) ∧ (n < lo → clampN n lo hi = lo) ∧ (hi < n → clampN n lo hi = hi) := by
  unfold clampN
  refine ⟨?_, ?_, ?_, ?_, ?_⟩ <;> repeat' split
  all_goals omega
/-- One tick of a number on its way. -/
def step (a b most : Int) : Int := clampN b (a - most) (a + most)
def nextT (ct tt ramp : Int) (f : List Int) : Int := step (clampN ct 0 1200) (goalT (clampN tt 0 1200) f) (clampN ramp 0 1200)
def nextD (cd td ramp : Int) (f : List Int) : Int := step (clampN cd 0 400) (goalD (clampN td 0 400) f) (clampN ramp 0 1200)
end Go.Proofs.Ytgngoijehjphoaa
