/-
  The statements' own small functions, and the names that an expression mentions, run abstractly.
-/
import Derived.Test.YtbdgblipbpadeaaGreatDoorNc
import Derived.Sort.Walk0
set_option linter.unusedSimpArgs false
set_option linter.unusedVariables false
set_option linter.defProp false
namespace Go.Proofs.YtbdgblipbpadeaaGreatDoor.Rl
open Go Go.Abs
set_option maxHeartbeats 4000000
set_option maxRecDepth 100000
@[simp] theorem eX_flat(e:Ex):(eX e).all isX=false:=by simp[eX_eq]
theorem fold0(op n:Int)(s:ByteArray):[I op,I n,St' s,.sl []]=eX (.mk op n s []):=by simp[eX_eq,Ex.op,Ex.n,Ex.name,Ex.args]
theorem fold1(op n:Int)(s:ByteArray)(a:Ex):[I op,I n,St' s,.sl [eX a]]=eX (.mk op n s [a]):=by rw[eX_eq (.mk op n s [a])];simp[Ex.op,Ex.n,Ex.name,Ex.args]
theorem fold2(op n:Int)(s:ByteArray)(a b:Ex):[I op,I n,St' s,.sl [eX a,eX b]]=eX (.mk op n s [a,b]):=by rw[eX_eq (.mk op n s [a,b])];simp[Ex.op,Ex.n,Ex.name,Ex.args]
end Go.Proofs.YtbdgblipbpadeaaGreatDoor.Rl
namespace Go.Proofs.YtbdgblipbpadeaaGreatDoor.Rl
open Go Go.Abs
set_option maxHeartbeats 4000000
set_option maxRecDepth 100000
end Go.Proofs.YtbdgblipbpadeaaGreatDoor.Rl
namespace Go.Proofs.YtbdgblipbpadeaaGreatDoor.Rl
open Go Go.Abs
set_option maxHeartbeats 1000000
end Go.Proofs.YtbdgblipbpadeaaGreatDoor.Rl
