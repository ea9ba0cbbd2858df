/-
  The reference's grids, run abstractly: they compute what the program computes.
-/
import Derived.Test.YtgngoijehjphoaaCvE
namespace Go.Proofs.Ytgngoijehjphoaa
set_option linter.unusedSimpArgs false
set_option linter.unusedVariables false
open Go Go.Abs
set_option maxHeartbeats 2000000
set_option maxRecDepth 100000

end Go.Proofs.Ytgngoijehjphoaa
