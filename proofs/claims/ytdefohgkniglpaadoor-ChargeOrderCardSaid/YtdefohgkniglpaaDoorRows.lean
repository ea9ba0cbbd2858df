/-
  NARROWER THAN 'FOR EVERY INPUT', by the rows' own cells (each row's printed sentence says how): ChargeFaults: laid · ChargeLimits: laid · ChargeKeeps: laid · ChargeShorter: laid · ChargeFans: laid · ChargeOrder: laid.
  DERIVED. THE GIVEN ROWS OF THIS SEAT. 6 by the template 'for every input the law returns true; each argument reads behind the call as it read before'; 0 by the template 'total and deterministic' (their statements: YtdefohgkniglpaaDoorTotals.lean).
  GIVEN WITH THE SEED: the statements are not yours to turn. If you find one false, say at which input.
  Laid BY PROGRAM, IN A SANDBOX (cutbox-rows.mjs): the forced cells as the released guide's own fill.sh prints them over the translation 09f292f2ba93496a… (all of the seat's roots in one cut). By AI agents, Wed Nov 11 2026. No macro, syntax, notation, axiom, sorry.
-/
import Derived.Test.YtdefohgkniglpaaDoorChecked
import GoSem.Claim
import GoSem.ClaimJoined
import GoSem.ClaimMapViews
import Derived.JoinedTies
import Derived.KernelRfl
namespace Go.Proofs.YtdefohgkniglpaaDoor
/- THE CELL 'sum', in the pinned program and in every row, IS THE sha256 OF THE DUMP (.gsa) THAT YtdefohgkniglpaaDoorProg.lean LOADS. Nothing in Lean hashes anything: it is a label: what it is worth is what the hold of that sum in a sandbox is worth. -/
noncomputable def Tryd.pinned : Pinned := { name := "ytdefohgkniglpaadoor", sum := "09f292f2ba93496a09b61ef05c4d7fab6ca07d2cd912dad9937fc6e2ef37552c", checked := Tryd.checked }
namespace Rows
def none {H : Type} : Left H := { results := [], args := [] }

/- WHAT THE LISTED PACKAGE-LEVEL VARIABLES READ AS WHEN THE CALL BEGINS. Each datum BY PROGRAM (the guide's laid-datum.mjs) off the statement by which the dump's own 'gosem.cut.vars' lays the variable. In a bare row this is a premise. The card (YtdefohgkniglpaaDoorCards.lean) ties it to the program's text. -/
def laid_sawmill_kiln_stillAir {H : Type} : DataW H := .agg [.lit (.bool false), .lit (.bool false), .lit (.bool true), .lit (.bool false)]

/-- 'sawmilllaw40.ChargeFaults': WHATEVER THE INPUT: true; the input reads as it did. -/
def chargeFaultsSpec : ChangeSpec := { name := "chargeFaults", fn := fun _ => fun
  | [d1, d2] => { results := [.lit (.bool true)], args := [d1, d2] }
  | _ => none }
def chargeFaultsRow : OpenClaim := { program := "ytdefohgkniglpaadoor", sum := "09f292f2ba93496a09b61ef05c4d7fab6ca07d2cd912dad9937fc6e2ef37552c", func := "sawmill/sawmilllaw40.ChargeFaults", spec := "chargeFaults", recurses := true, named := ["sawmill/kiln.stillAir", "math/bits.divideError", "math/bits.overflowError"], apart := false, laid := [("sawmill/kiln.stillAir", laid_sawmill_kiln_stillAir)] }
def ChargeFaultsSaid : Prop := chargeFaultsRow.holds Tryd.pinned (OpenSpec.ofChange chargeFaultsSpec)

/-- ITS FALSE NEIGHBOUR: 'it returns false'. Refute it at one input. -/
def chargeFaultsWrong : ChangeSpec := { name := "chargeFaults", fn := fun _ => fun
  | [d1, d2] => { results := [.lit (.bool false)], args := [d1, d2] }
  | _ => none }
def ChargeFaultsWrongFalsely : Prop := chargeFaultsRow.holds Tryd.pinned (OpenSpec.ofChange chargeFaultsWrong)

/-- 'sawmilllaw40.ChargeLimits': WHATEVER THE INPUT: true; the input reads as it did. -/
def chargeLimitsSpec : ChangeSpec := { name := "chargeLimits", fn := fun _ => fun
  | [d] => { results := [.lit (.bool true)], args := [d] }
  | _ => none }
def chargeLimitsRow : OpenClaim := { program := "ytdefohgkniglpaadoor", sum := "09f292f2ba93496a09b61ef05c4d7fab6ca07d2cd912dad9937fc6e2ef37552c", func := "sawmill/sawmilllaw40.ChargeLimits", spec := "chargeLimits", recurses := true, named := ["sawmill/kiln.stillAir", "math/bits.divideError", "math/bits.overflowError"], apart := false, laid := [("sawmill/kiln.stillAir", laid_sawmill_kiln_stillAir)] }
def ChargeLimitsSaid : Prop := chargeLimitsRow.holds Tryd.pinned (OpenSpec.ofChange chargeLimitsSpec)

/-- ITS FALSE NEIGHBOUR: 'it returns false'. Refute it at one input. -/
def chargeLimitsWrong : ChangeSpec := { name := "chargeLimits", fn := fun _ => fun
  | [d] => { results := [.lit (.bool false)], args := [d] }
  | _ => none }
def ChargeLimitsWrongFalsely : Prop := chargeLimitsRow.holds Tryd.pinned (OpenSpec.ofChange chargeLimitsWrong)

/-- 'sawmilllaw40.ChargeKeeps': WHATEVER THE INPUT: true; the input reads as it did. -/
def chargeKeepsSpec : ChangeSpec := { name := "chargeKeeps", fn := fun _ => fun
  | [d] => { results := [.lit (.bool true)], args := [d] }
  | _ => none }
def chargeKeepsRow : OpenClaim := { program := "ytdefohgkniglpaadoor", sum := "09f292f2ba93496a09b61ef05c4d7fab6ca07d2cd912dad9937fc6e2ef37552c", func := "sawmill/sawmilllaw40.ChargeKeeps", spec := "chargeKeeps", recurses := true, named := ["sawmill/kiln.stillAir", "math/bits.divideError", "math/bits.overflowError"], apart := false, laid := [("sawmill/kiln.stillAir", laid_sawmill_kiln_stillAir)] }
def ChargeKeepsSaid : Prop := chargeKeepsRow.holds Tryd.pinned (OpenSpec.ofChange chargeKeepsSpec)

/-- ITS FALSE NEIGHBOUR: 'it returns false'. Refute it at one input. -/
def chargeKeepsWrong : ChangeSpec := { name := "chargeKeeps", fn := fun _ => fun
  | [d] => { results := [.lit (.bool false)], args := [d] }
  | _ => none }
def ChargeKeepsWrongFalsely : Prop := chargeKeepsRow.holds Tryd.pinned (OpenSpec.ofChange chargeKeepsWrong)

/-- 'sawmilllaw40.ChargeShorter': WHATEVER THE INPUT: true; the input reads as it did. -/
def chargeShorterSpec : ChangeSpec := { name := "chargeShorter", fn := fun _ => fun
  | [d1, d2] => { results := [.lit (.bool true)], args := [d1, d2] }
  | _ => none }
def chargeShorterRow : OpenClaim := { program := "ytdefohgkniglpaadoor", sum := "09f292f2ba93496a09b61ef05c4d7fab6ca07d2cd912dad9937fc6e2ef37552c", func := "sawmill/sawmilllaw40.ChargeShorter", spec := "chargeShorter", recurses := true, named := ["sawmill/kiln.stillAir", "math/bits.divideError", "math/bits.overflowError"], apart := false, laid := [("sawmill/kiln.stillAir", laid_sawmill_kiln_stillAir)] }
def ChargeShorterSaid : Prop := chargeShorterRow.holds Tryd.pinned (OpenSpec.ofChange chargeShorterSpec)

/-- ITS FALSE NEIGHBOUR: 'it returns false'. Refute it at one input. -/
def chargeShorterWrong : ChangeSpec := { name := "chargeShorter", fn := fun _ => fun
  | [d1, d2] => { results := [.lit (.bool false)], args := [d1, d2] }
  | _ => none }
def ChargeShorterWrongFalsely : Prop := chargeShorterRow.holds Tryd.pinned (OpenSpec.ofChange chargeShorterWrong)

/-- 'sawmilllaw40.ChargeFans': WHATEVER THE INPUT: true; the input reads as it did. -/
def chargeFansSpec : ChangeSpec := { name := "chargeFans", fn := fun _ => fun
  | [d] => { results := [.lit (.bool true)], args := [d] }
  | _ => none }
def chargeFansRow : OpenClaim := { program := "ytdefohgkniglpaadoor", sum := "09f292f2ba93496a09b61ef05c4d7fab6ca07d2cd912dad9937fc6e2ef37552c", func := "sawmill/sawmilllaw40.ChargeFans", spec := "chargeFans", recurses := true, named := ["sawmill/kiln.stillAir", "math/bits.divideError", "math/bits.overflowError"], apart := false, laid := [("sawmill/kiln.stillAir", laid_sawmill_kiln_stillAir)] }
def ChargeFansSaid : Prop := chargeFansRow.holds Tryd.pinned (OpenSpec.ofChange chargeFansSpec)

/-- ITS FALSE NEIGHBOUR: 'it returns false'. Refute it at one input. -/
def chargeFansWrong : ChangeSpec := { name := "chargeFans", fn := fun _ => fun
  | [d] => { results := [.lit (.bool false)], args := [d] }
  | _ => none }
def ChargeFansWrongFalsely : Prop := chargeFansRow.holds Tryd.pinned (OpenSpec.ofChange chargeFansWrong)

/-- 'sawmilllaw40.ChargeOrder': WHATEVER THE INPUT: true; the input reads as it did. -/
def chargeOrderSpec : ChangeSpec := { name := "chargeOrder", fn := fun _ => fun
  | [d1, d2] => { results := [.lit (.bool true)], args := [d1, d2] }
  | _ => none }
def chargeOrderRow : OpenClaim := { program := "ytdefohgkniglpaadoor", sum := "09f292f2ba93496a09b61ef05c4d7fab6ca07d2cd912dad9937fc6e2ef37552c", func := "sawmill/sawmilllaw40.ChargeOrder", spec := "chargeOrder", recurses := true, named := ["sawmill/kiln.stillAir", "math/bits.divideError", "math/bits.overflowError"], apart := false, laid := [("sawmill/kiln.stillAir", laid_sawmill_kiln_stillAir)] }
def ChargeOrderSaid : Prop := chargeOrderRow.holds Tryd.pinned (OpenSpec.ofChange chargeOrderSpec)

/-- ITS FALSE NEIGHBOUR: 'it returns false'. Refute it at one input. -/
def chargeOrderWrong : ChangeSpec := { name := "chargeOrder", fn := fun _ => fun
  | [d1, d2] => { results := [.lit (.bool false)], args := [d1, d2] }
  | _ => none }
def ChargeOrderWrongFalsely : Prop := chargeOrderRow.holds Tryd.pinned (OpenSpec.ofChange chargeOrderWrong)

/- THE SECOND FORM. 'bulk': how many values and letters a reading holds, each counted each time it is reached (what is shared counts as often as it is met; a slice's spare places count too). A statement '..UptoSaid' is the law's where the arguments, and the package variables that the reading takes, are together of bulk at most 1048576: NARROWER than '..Said'. Prove '..Said' where nothing that the law and all that it calls make is longer than what came in: it says more and counts as full. Else prove '..UptoSaid'. A law counts once. -/
mutual
def uptoBulk {H : Type} : DataW H → Nat
  | .lit (.string bytes) => bytes.length + 1
  | .lit _ => 1
  | .nil => 1
  | .ptr d => uptoBulk d + 1
  | .slice elems spare => uptoBulkAll elems + uptoBulkAll spare + 1
  | .agg parts => uptoBulkAll parts + 1
  | .iface _ d => uptoBulk d + 1
  | .map entries => uptoBulkEntries entries + 1
  | .held _ => 1
def uptoBulkAll {H : Type} : List (DataW H) → Nat
  | [] => 0
  | d :: r => uptoBulk d + uptoBulkAll r
def uptoBulkEntries {H : Type} : List (Lit × DataW H) → Nat
  | [] => 0
  | x :: r => uptoBulkEntry x + uptoBulkEntries r
def uptoBulkEntry {H : Type} : Lit × DataW H → Nat
  | (.string bytes, d) => bytes.length + uptoBulk d + 1
  | (_, d) => uptoBulk d + 1
 end
def uptoSmall : (H : Type) → List (DataW H) → Bool := fun _ ds => decide (uptoBulkAll ds ≤ 1048576)
def OpenSpec.upto (s : _root_.Go.ChangeSpec) : _root_.Go.OpenSpec := { _root_.Go.OpenSpec.ofChange s with cond := some uptoSmall }

/-- 'sawmilllaw40.ChargeFaults', WHERE WHAT IT READS IS OF BULK AT MOST 1048576: true; the input reads as it did. -/
def chargeFaultsUptoRow : OpenClaim := { program := "ytdefohgkniglpaadoor", sum := "09f292f2ba93496a09b61ef05c4d7fab6ca07d2cd912dad9937fc6e2ef37552c", func := "sawmill/sawmilllaw40.ChargeFaults", spec := "chargeFaults", recurses := true, named := ["sawmill/kiln.stillAir", "math/bits.divideError", "math/bits.overflowError"], apart := false, laid := [("sawmill/kiln.stillAir", laid_sawmill_kiln_stillAir)], narrowed := true }
def ChargeFaultsUptoSaid : Prop := chargeFaultsUptoRow.holds Tryd.pinned (OpenSpec.upto chargeFaultsSpec)

/-- 'sawmilllaw40.ChargeLimits', WHERE WHAT IT READS IS OF BULK AT MOST 1048576: true; the input reads as it did. -/
def chargeLimitsUptoRow : OpenClaim := { program := "ytdefohgkniglpaadoor", sum := "09f292f2ba93496a09b61ef05c4d7fab6ca07d2cd912dad9937fc6e2ef37552c", func := "sawmill/sawmilllaw40.ChargeLimits", spec := "chargeLimits", recurses := true, named := ["sawmill/kiln.stillAir", "math/bits.divideError", "math/bits.overflowError"], apart := false, laid := [("sawmill/kiln.stillAir", laid_sawmill_kiln_stillAir)], narrowed := true }
def ChargeLimitsUptoSaid : Prop := chargeLimitsUptoRow.holds Tryd.pinned (OpenSpec.upto chargeLimitsSpec)

/-- 'sawmilllaw40.ChargeKeeps', WHERE WHAT IT READS IS OF BULK AT MOST 1048576: true; the input reads as it did. -/
def chargeKeepsUptoRow : OpenClaim := { program := "ytdefohgkniglpaadoor", sum := "09f292f2ba93496a09b61ef05c4d7fab6ca07d2cd912dad9937fc6e2ef37552c", func := "sawmill/sawmilllaw40.ChargeKeeps", spec := "chargeKeeps", recurses := true, named := ["sawmill/kiln.stillAir", "math/bits.divideError", "math/bits.overflowError"], apart := false, laid := [("sawmill/kiln.stillAir", laid_sawmill_kiln_stillAir)], narrowed := true }
def ChargeKeepsUptoSaid : Prop := chargeKeepsUptoRow.holds Tryd.pinned (OpenSpec.upto chargeKeepsSpec)

/-- 'sawmilllaw40.ChargeShorter', WHERE WHAT IT READS IS OF BULK AT MOST 1048576: true; the input reads as it did. -/
def chargeShorterUptoRow : OpenClaim := { program := "ytdefohgkniglpaadoor", sum := "09f292f2ba93496a09b61ef05c4d7fab6ca07d2cd912dad9937fc6e2ef37552c", func := "sawmill/sawmilllaw40.ChargeShorter", spec := "chargeShorter", recurses := true, named := ["sawmill/kiln.stillAir", "math/bits.divideError", "math/bits.overflowError"], apart := false, laid := [("sawmill/kiln.stillAir", laid_sawmill_kiln_stillAir)], narrowed := true }
def ChargeShorterUptoSaid : Prop := chargeShorterUptoRow.holds Tryd.pinned (OpenSpec.upto chargeShorterSpec)

/-- 'sawmilllaw40.ChargeFans', WHERE WHAT IT READS IS OF BULK AT MOST 1048576: true; the input reads as it did. -/
def chargeFansUptoRow : OpenClaim := { program := "ytdefohgkniglpaadoor", sum := "09f292f2ba93496a09b61ef05c4d7fab6ca07d2cd912dad9937fc6e2ef37552c", func := "sawmill/sawmilllaw40.ChargeFans", spec := "chargeFans", recurses := true, named := ["sawmill/kiln.stillAir", "math/bits.divideError", "math/bits.overflowError"], apart := false, laid := [("sawmill/kiln.stillAir", laid_sawmill_kiln_stillAir)], narrowed := true }
def ChargeFansUptoSaid : Prop := chargeFansUptoRow.holds Tryd.pinned (OpenSpec.upto chargeFansSpec)

/-- 'sawmilllaw40.ChargeOrder', WHERE WHAT IT READS IS OF BULK AT MOST 1048576: true; the input reads as it did. -/
def chargeOrderUptoRow : OpenClaim := { program := "ytdefohgkniglpaadoor", sum := "09f292f2ba93496a09b61ef05c4d7fab6ca07d2cd912dad9937fc6e2ef37552c", func := "sawmill/sawmilllaw40.ChargeOrder", spec := "chargeOrder", recurses := true, named := ["sawmill/kiln.stillAir", "math/bits.divideError", "math/bits.overflowError"], apart := false, laid := [("sawmill/kiln.stillAir", laid_sawmill_kiln_stillAir)], narrowed := true }
def ChargeOrderUptoSaid : Prop := chargeOrderUptoRow.holds Tryd.pinned (OpenSpec.upto chargeOrderSpec)

end Rows
end Go.Proofs.YtdefohgkniglpaaDoor
