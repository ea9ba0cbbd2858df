/-
  The reference's grids, run abstractly: they compute what the program computes.
-/
import Derived.Test.YtiklahkoaikjeaaCvE
namespace Go.Proofs.Ytiklahkoaikjeaa
set_option linter.unusedSimpArgs false
set_option linter.unusedVariables false
open Go Go.Abs
set_option maxHeartbeats 2000000
set_option maxRecDepth 100000

end Go.Proofs.Ytiklahkoaikjeaa
