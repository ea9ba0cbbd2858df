/-
  NARROWER THAN 'FOR EVERY INPUT', by the rows' own cells (each row's printed sentence says how): KilnBegins: laid · KilnLimits: laid · KilnCounts: laid · KilnAlone: laid · KilnNone: laid.
  DERIVED. THE GIVEN ROWS OF THIS SEAT. 5 by the template 'for every input the law returns true; each argument reads behind the call as it read before'; 0 by the template 'total and deterministic' (their statements: YthgamgdcjgbmnaaDoorTotals.lean).
  GIVEN WITH THE SEED: the statements are not yours to turn. If you find one false, say at which input.
  Laid BY PROGRAM, IN A SANDBOX (cutbox-rows.mjs): the forced cells as the released guide's own fill.sh prints them over the translation 5269905a9bb04e95… (all of the seat's roots in one cut). By AI agents, Wed Nov 11 2026. No macro, syntax, notation, axiom, sorry.
-/
import Derived.Test.YthgamgdcjgbmnaaDoorChecked
import GoSem.Claim
import GoSem.ClaimJoined
import GoSem.ClaimMapViews
import Derived.JoinedTies
import Derived.KernelRfl
namespace Go.Proofs.YthgamgdcjgbmnaaDoor
/- THE CELL 'sum', in the pinned program and in every row, IS THE sha256 OF THE DUMP (.gsa) THAT YthgamgdcjgbmnaaDoorProg.lean LOADS. Nothing in Lean hashes anything: it is a label: what it is worth is what the hold of that sum in a sandbox is worth. -/
noncomputable def Tryd.pinned : Pinned := { name := "ythgamgdcjgbmnaadoor", sum := "5269905a9bb04e9549f773c7aa4b56fae486cdbddc5ee73979b2a7ea9fd6a6e5", checked := Tryd.checked }
namespace Rows
def none {H : Type} : Left H := { results := [], args := [] }

/- WHAT THE LISTED PACKAGE-LEVEL VARIABLES READ AS WHEN THE CALL BEGINS. Each datum BY PROGRAM (the guide's laid-datum.mjs) off the statement by which the dump's own 'gosem.cut.vars' lays the variable. In a bare row this is a premise. The card (YthgamgdcjgbmnaaDoorCards.lean) ties it to the program's text. -/
def laid_sawmill_kiln_stillAir {H : Type} : DataW H := .agg [.lit (.bool false), .lit (.bool false), .lit (.bool true), .lit (.bool false)]

/-- 'sawmilllaw38.KilnBegins': WHATEVER THE INPUT: true; the input reads as it did. -/
def kilnBeginsSpec : ChangeSpec := { name := "kilnBegins", fn := fun _ => fun
  | [d] => { results := [.lit (.bool true)], args := [d] }
  | _ => none }
def kilnBeginsRow : OpenClaim := { program := "ythgamgdcjgbmnaadoor", sum := "5269905a9bb04e9549f773c7aa4b56fae486cdbddc5ee73979b2a7ea9fd6a6e5", func := "sawmill/sawmilllaw38.KilnBegins", spec := "kilnBegins", named := ["sawmill/kiln.stillAir", "math/bits.divideError", "math/bits.overflowError"], apart := false, laid := [("sawmill/kiln.stillAir", laid_sawmill_kiln_stillAir)] }
def KilnBeginsSaid : Prop := kilnBeginsRow.holds Tryd.pinned (OpenSpec.ofChange kilnBeginsSpec)

/-- ITS FALSE NEIGHBOUR: 'it returns false'. Refute it at one input. -/
def kilnBeginsWrong : ChangeSpec := { name := "kilnBegins", fn := fun _ => fun
  | [d] => { results := [.lit (.bool false)], args := [d] }
  | _ => none }
def KilnBeginsWrongFalsely : Prop := kilnBeginsRow.holds Tryd.pinned (OpenSpec.ofChange kilnBeginsWrong)

/-- 'sawmilllaw38.KilnLimits': WHATEVER THE INPUT: true; the input reads as it did. -/
def kilnLimitsSpec : ChangeSpec := { name := "kilnLimits", fn := fun _ => fun
  | [d1, d2] => { results := [.lit (.bool true)], args := [d1, d2] }
  | _ => none }
def kilnLimitsRow : OpenClaim := { program := "ythgamgdcjgbmnaadoor", sum := "5269905a9bb04e9549f773c7aa4b56fae486cdbddc5ee73979b2a7ea9fd6a6e5", func := "sawmill/sawmilllaw38.KilnLimits", spec := "kilnLimits", named := ["sawmill/kiln.stillAir", "math/bits.divideError", "math/bits.overflowError"], apart := false, laid := [("sawmill/kiln.stillAir", laid_sawmill_kiln_stillAir)] }
def KilnLimitsSaid : Prop := kilnLimitsRow.holds Tryd.pinned (OpenSpec.ofChange kilnLimitsSpec)

/-- ITS FALSE NEIGHBOUR: 'it returns false'. Refute it at one input. -/
def kilnLimitsWrong : ChangeSpec := { name := "kilnLimits", fn := fun _ => fun
  | [d1, d2] => { results := [.lit (.bool false)], args := [d1, d2] }
  | _ => none }
def KilnLimitsWrongFalsely : Prop := kilnLimitsRow.holds Tryd.pinned (OpenSpec.ofChange kilnLimitsWrong)

/-- 'sawmilllaw38.KilnCounts': WHATEVER THE INPUT: true; the input reads as it did. -/
def kilnCountsSpec : ChangeSpec := { name := "kilnCounts", fn := fun _ => fun
  | [d1, d2] => { results := [.lit (.bool true)], args := [d1, d2] }
  | _ => none }
def kilnCountsRow : OpenClaim := { program := "ythgamgdcjgbmnaadoor", sum := "5269905a9bb04e9549f773c7aa4b56fae486cdbddc5ee73979b2a7ea9fd6a6e5", func := "sawmill/sawmilllaw38.KilnCounts", spec := "kilnCounts", named := ["sawmill/kiln.stillAir", "math/bits.divideError", "math/bits.overflowError"], apart := false, laid := [("sawmill/kiln.stillAir", laid_sawmill_kiln_stillAir)] }
def KilnCountsSaid : Prop := kilnCountsRow.holds Tryd.pinned (OpenSpec.ofChange kilnCountsSpec)

/-- ITS FALSE NEIGHBOUR: 'it returns false'. Refute it at one input. -/
def kilnCountsWrong : ChangeSpec := { name := "kilnCounts", fn := fun _ => fun
  | [d1, d2] => { results := [.lit (.bool false)], args := [d1, d2] }
  | _ => none }
def KilnCountsWrongFalsely : Prop := kilnCountsRow.holds Tryd.pinned (OpenSpec.ofChange kilnCountsWrong)

/-- 'sawmilllaw38.KilnAlone': WHATEVER THE INPUT: true; the input reads as it did. -/
def kilnAloneSpec : ChangeSpec := { name := "kilnAlone", fn := fun _ => fun
  | [d1, d2, d3] => { results := [.lit (.bool true)], args := [d1, d2, d3] }
  | _ => none }
def kilnAloneRow : OpenClaim := { program := "ythgamgdcjgbmnaadoor", sum := "5269905a9bb04e9549f773c7aa4b56fae486cdbddc5ee73979b2a7ea9fd6a6e5", func := "sawmill/sawmilllaw38.KilnAlone", spec := "kilnAlone", named := ["sawmill/kiln.stillAir", "math/bits.divideError", "math/bits.overflowError"], apart := false, laid := [("sawmill/kiln.stillAir", laid_sawmill_kiln_stillAir)] }
def KilnAloneSaid : Prop := kilnAloneRow.holds Tryd.pinned (OpenSpec.ofChange kilnAloneSpec)

/-- ITS FALSE NEIGHBOUR: 'it returns false'. Refute it at one input. -/
def kilnAloneWrong : ChangeSpec := { name := "kilnAlone", fn := fun _ => fun
  | [d1, d2, d3] => { results := [.lit (.bool false)], args := [d1, d2, d3] }
  | _ => none }
def KilnAloneWrongFalsely : Prop := kilnAloneRow.holds Tryd.pinned (OpenSpec.ofChange kilnAloneWrong)

/-- 'sawmilllaw38.KilnNone': WHATEVER THE INPUT: true; the input reads as it did. -/
def kilnNoneSpec : ChangeSpec := { name := "kilnNone", fn := fun _ => fun
  | [d] => { results := [.lit (.bool true)], args := [d] }
  | _ => none }
def kilnNoneRow : OpenClaim := { program := "ythgamgdcjgbmnaadoor", sum := "5269905a9bb04e9549f773c7aa4b56fae486cdbddc5ee73979b2a7ea9fd6a6e5", func := "sawmill/sawmilllaw38.KilnNone", spec := "kilnNone", named := ["sawmill/kiln.stillAir", "math/bits.divideError", "math/bits.overflowError"], apart := false, laid := [("sawmill/kiln.stillAir", laid_sawmill_kiln_stillAir)] }
def KilnNoneSaid : Prop := kilnNoneRow.holds Tryd.pinned (OpenSpec.ofChange kilnNoneSpec)

/-- ITS FALSE NEIGHBOUR: 'it returns false'. Refute it at one input. -/
def kilnNoneWrong : ChangeSpec := { name := "kilnNone", fn := fun _ => fun
  | [d] => { results := [.lit (.bool false)], args := [d] }
  | _ => none }
def KilnNoneWrongFalsely : Prop := kilnNoneRow.holds Tryd.pinned (OpenSpec.ofChange kilnNoneWrong)

/- THE SECOND FORM. 'bulk': how many values and letters a reading holds, each counted each time it is reached (what is shared counts as often as it is met; a slice's spare places count too). A statement '..UptoSaid' is the law's where the arguments, and the package variables that the reading takes, are together of bulk at most 1048576: NARROWER than '..Said'. Prove '..Said' where nothing that the law and all that it calls make is longer than what came in: it says more and counts as full. Else prove '..UptoSaid'. A law counts once. -/
mutual
def uptoBulk {H : Type} : DataW H → Nat
  | .lit (.string bytes) => bytes.length + 1
  | .lit _ => 1
  | .nil => 1
  | .ptr d => uptoBulk d + 1
  | .slice elems spare => uptoBulkAll elems + uptoBulkAll spare + 1
  | .agg parts => uptoBulkAll parts + 1
  | .iface _ d => uptoBulk d + 1
  | .map entries => uptoBulkEntries entries + 1
  | .held _ => 1
def uptoBulkAll {H : Type} : List (DataW H) → Nat
  | [] => 0
  | d :: r => uptoBulk d + uptoBulkAll r
def uptoBulkEntries {H : Type} : List (Lit × DataW H) → Nat
  | [] => 0
  | x :: r => uptoBulkEntry x + uptoBulkEntries r
def uptoBulkEntry {H : Type} : Lit × DataW H → Nat
  | (.string bytes, d) => bytes.length + uptoBulk d + 1
  | (_, d) => uptoBulk d + 1
 end
def uptoSmall : (H : Type) → List (DataW H) → Bool := fun _ ds => decide (uptoBulkAll ds ≤ 1048576)
def OpenSpec.upto (s : _root_.Go.ChangeSpec) : _root_.Go.OpenSpec := { _root_.Go.OpenSpec.ofChange s with cond := some uptoSmall }

/-- 'sawmilllaw38.KilnBegins', WHERE WHAT IT READS IS OF BULK AT MOST 1048576: true; the input reads as it did. -/
def kilnBeginsUptoRow : OpenClaim := { program := "ythgamgdcjgbmnaadoor", sum := "5269905a9bb04e9549f773c7aa4b56fae486cdbddc5ee73979b2a7ea9fd6a6e5", func := "sawmill/sawmilllaw38.KilnBegins", spec := "kilnBegins", named := ["sawmill/kiln.stillAir", "math/bits.divideError", "math/bits.overflowError"], apart := false, laid := [("sawmill/kiln.stillAir", laid_sawmill_kiln_stillAir)], narrowed := true }
def KilnBeginsUptoSaid : Prop := kilnBeginsUptoRow.holds Tryd.pinned (OpenSpec.upto kilnBeginsSpec)

/-- 'sawmilllaw38.KilnLimits', WHERE WHAT IT READS IS OF BULK AT MOST 1048576: true; the input reads as it did. -/
def kilnLimitsUptoRow : OpenClaim := { program := "ythgamgdcjgbmnaadoor", sum := "5269905a9bb04e9549f773c7aa4b56fae486cdbddc5ee73979b2a7ea9fd6a6e5", func := "sawmill/sawmilllaw38.KilnLimits", spec := "kilnLimits", named := ["sawmill/kiln.stillAir", "math/bits.divideError", "math/bits.overflowError"], apart := false, laid := [("sawmill/kiln.stillAir", laid_sawmill_kiln_stillAir)], narrowed := true }
def KilnLimitsUptoSaid : Prop := kilnLimitsUptoRow.holds Tryd.pinned (OpenSpec.upto kilnLimitsSpec)

/-- 'sawmilllaw38.KilnCounts', WHERE WHAT IT READS IS OF BULK AT MOST 1048576: true; the input reads as it did. -/
def kilnCountsUptoRow : OpenClaim := { program := "ythgamgdcjgbmnaadoor", sum := "5269905a9bb04e9549f773c7aa4b56fae486cdbddc5ee73979b2a7ea9fd6a6e5", func := "sawmill/sawmilllaw38.KilnCounts", spec := "kilnCounts", named := ["sawmill/kiln.stillAir", "math/bits.divideError", "math/bits.overflowError"], apart := false, laid := [("sawmill/kiln.stillAir", laid_sawmill_kiln_stillAir)], narrowed := true }
def KilnCountsUptoSaid : Prop := kilnCountsUptoRow.holds Tryd.pinned (OpenSpec.upto kilnCountsSpec)

/-- 'sawmilllaw38.KilnAlone', WHERE WHAT IT READS IS OF BULK AT MOST 1048576: true; the input reads as it did. -/
def kilnAloneUptoRow : OpenClaim := { program := "ythgamgdcjgbmnaadoor", sum := "5269905a9bb04e9549f773c7aa4b56fae486cdbddc5ee73979b2a7ea9fd6a6e5", func := "sawmill/sawmilllaw38.KilnAlone", spec := "kilnAlone", named := ["sawmill/kiln.stillAir", "math/bits.divideError", "math/bits.overflowError"], apart := false, laid := [("sawmill/kiln.stillAir", laid_sawmill_kiln_stillAir)], narrowed := true }
def KilnAloneUptoSaid : Prop := kilnAloneUptoRow.holds Tryd.pinned (OpenSpec.upto kilnAloneSpec)

/-- 'sawmilllaw38.KilnNone', WHERE WHAT IT READS IS OF BULK AT MOST 1048576: true; the input reads as it did. -/
def kilnNoneUptoRow : OpenClaim := { program := "ythgamgdcjgbmnaadoor", sum := "5269905a9bb04e9549f773c7aa4b56fae486cdbddc5ee73979b2a7ea9fd6a6e5", func := "sawmill/sawmilllaw38.KilnNone", spec := "kilnNone", named := ["sawmill/kiln.stillAir", "math/bits.divideError", "math/bits.overflowError"], apart := false, laid := [("sawmill/kiln.stillAir", laid_sawmill_kiln_stillAir)], narrowed := true }
def KilnNoneUptoSaid : Prop := kilnNoneUptoRow.holds Tryd.pinned (OpenSpec.upto kilnNoneSpec)

end Rows
end Go.Proofs.YthgamgdcjgbmnaaDoor
