/-
  The reference's Rising and Reach, run abstractly.
-/
import Derived.Test.YtiklahkoaikjeaaCvE
import Derived.Test.YtiklahkoaikjeaaCvR
namespace Go.Proofs.Ytiklahkoaikjeaa
set_option linter.unusedSimpArgs false
set_option linter.unusedVariables false
open Go Go.Abs
set_option maxHeartbeats 2000000
set_option maxRecDepth 100000

/-- Rounding up, in two ways. -/
theorem ceil_eq {m d : Int} (hd : 0 < d) : -(-m / d) = (m + d - 1) / d := by
  symm
  rw [Int.ediv_eq_iff_of_pos hd]
  have h1 := Int.mul_ediv_add_emod (-m) d
  have h2 := Int.emod_nonneg (-m) (Int.ne_of_gt hd)
  have h3 := Int.emod_lt_of_pos (-m) hd
  have e1 : -(-m / d) * d = -(d * (-m / d)) := by rw [Int.neg_mul, Int.mul_comm]
  rw [e1]
  omega
end Go.Proofs.Ytiklahkoaikjeaa
