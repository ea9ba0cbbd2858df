/-
  NARROWER THAN 'FOR EVERY INPUT', by the rows' own cells (each row's printed sentence says how): RuleChecks: loops · RuleEvals: loops · RuleGrades: loops · RuleTypes: loops · RuleFeatures: loops · RuleFirst: loops · RuleLogic: loops.
  DERIVED. THE GIVEN ROWS OF THIS SEAT. 7 by the template 'for every input the law returns true; each argument reads behind the call as it read before'; 0 by the template 'total and deterministic' (their statements: YtkdmoefacgbgkaaTotals.lean).
  GIVEN WITH THE SEED: the statements are not yours to turn. If you find one false, say at which input.
  Laid BY PROGRAM, IN A SANDBOX (cutbox-rows.mjs): the forced cells as the released guide's own fill.sh prints them over the translation 67b8638967e13a7c… (all of the seat's roots in one cut). By AI agents, Wed Nov 11 2026. No macro, syntax, notation, axiom, sorry.
-/
import Derived.Test.YtkdmoefacgbgkaaChecked
import GoSem.Claim
import GoSem.ClaimJoined
import GoSem.ClaimMapViews
import Derived.JoinedTies
import Derived.KernelRfl
namespace Go.Proofs.Ytkdmoefacgbgkaa
/- THE CELL 'sum', in the pinned program and in every row, IS THE sha256 OF THE DUMP (.gsa) THAT YtkdmoefacgbgkaaProg.lean LOADS. Nothing in Lean hashes anything: it is a label: what it is worth is what the hold of that sum in a sandbox is worth. -/
noncomputable def Try.pinned : Pinned := { name := "ytkdmoefacgbgkaa", sum := "67b8638967e13a7c0e5b63de3f554f89ae88edd00df4b4a75501bd4d7d03895d", checked := Try.checked }
namespace Rows
def none {H : Type} : Left H := { results := [], args := [] }

/-- 'sawmilllaw43.RuleChecks': WHATEVER THE INPUT: true; the input reads as it did. -/
def ruleChecksSpec : ChangeSpec := { name := "ruleChecks", fn := fun _ => fun
  | [d1, d2] => { results := [.lit (.bool true)], args := [d1, d2] }
  | _ => none }
def ruleChecksRow : OpenClaim := { program := "ytkdmoefacgbgkaa", sum := "67b8638967e13a7c0e5b63de3f554f89ae88edd00df4b4a75501bd4d7d03895d", func := "sawmill/sawmilllaw43.RuleChecks", spec := "ruleChecks", recurses := true, loops := true, apart := false }
def RuleChecksSaid : Prop := ruleChecksRow.holds Try.pinned (OpenSpec.ofChange ruleChecksSpec)

/-- ITS FALSE NEIGHBOUR: 'it returns false'. Refute it at one input. -/
def ruleChecksWrong : ChangeSpec := { name := "ruleChecks", fn := fun _ => fun
  | [d1, d2] => { results := [.lit (.bool false)], args := [d1, d2] }
  | _ => none }
def RuleChecksWrongFalsely : Prop := ruleChecksRow.holds Try.pinned (OpenSpec.ofChange ruleChecksWrong)

/-- 'sawmilllaw43.RuleEvals': WHATEVER THE INPUT: true; the input reads as it did. -/
def ruleEvalsSpec : ChangeSpec := { name := "ruleEvals", fn := fun _ => fun
  | [d1, d2] => { results := [.lit (.bool true)], args := [d1, d2] }
  | _ => none }
def ruleEvalsRow : OpenClaim := { program := "ytkdmoefacgbgkaa", sum := "67b8638967e13a7c0e5b63de3f554f89ae88edd00df4b4a75501bd4d7d03895d", func := "sawmill/sawmilllaw43.RuleEvals", spec := "ruleEvals", recurses := true, loops := true, apart := false }
def RuleEvalsSaid : Prop := ruleEvalsRow.holds Try.pinned (OpenSpec.ofChange ruleEvalsSpec)

/-- ITS FALSE NEIGHBOUR: 'it returns false'. Refute it at one input. -/
def ruleEvalsWrong : ChangeSpec := { name := "ruleEvals", fn := fun _ => fun
  | [d1, d2] => { results := [.lit (.bool false)], args := [d1, d2] }
  | _ => none }
def RuleEvalsWrongFalsely : Prop := ruleEvalsRow.holds Try.pinned (OpenSpec.ofChange ruleEvalsWrong)

/-- 'sawmilllaw43.RuleGrades': WHATEVER THE INPUT: true; the input reads as it did. -/
def ruleGradesSpec : ChangeSpec := { name := "ruleGrades", fn := fun _ => fun
  | [d1, d2] => { results := [.lit (.bool true)], args := [d1, d2] }
  | _ => none }
def ruleGradesRow : OpenClaim := { program := "ytkdmoefacgbgkaa", sum := "67b8638967e13a7c0e5b63de3f554f89ae88edd00df4b4a75501bd4d7d03895d", func := "sawmill/sawmilllaw43.RuleGrades", spec := "ruleGrades", recurses := true, loops := true, apart := false }
def RuleGradesSaid : Prop := ruleGradesRow.holds Try.pinned (OpenSpec.ofChange ruleGradesSpec)

/-- ITS FALSE NEIGHBOUR: 'it returns false'. Refute it at one input. -/
def ruleGradesWrong : ChangeSpec := { name := "ruleGrades", fn := fun _ => fun
  | [d1, d2] => { results := [.lit (.bool false)], args := [d1, d2] }
  | _ => none }
def RuleGradesWrongFalsely : Prop := ruleGradesRow.holds Try.pinned (OpenSpec.ofChange ruleGradesWrong)

/-- 'sawmilllaw43.RuleTypes': WHATEVER THE INPUT: true; the input reads as it did. -/
def ruleTypesSpec : ChangeSpec := { name := "ruleTypes", fn := fun _ => fun
  | [d1, d2] => { results := [.lit (.bool true)], args := [d1, d2] }
  | _ => none }
def ruleTypesRow : OpenClaim := { program := "ytkdmoefacgbgkaa", sum := "67b8638967e13a7c0e5b63de3f554f89ae88edd00df4b4a75501bd4d7d03895d", func := "sawmill/sawmilllaw43.RuleTypes", spec := "ruleTypes", recurses := true, loops := true, apart := false }
def RuleTypesSaid : Prop := ruleTypesRow.holds Try.pinned (OpenSpec.ofChange ruleTypesSpec)

/-- ITS FALSE NEIGHBOUR: 'it returns false'. Refute it at one input. -/
def ruleTypesWrong : ChangeSpec := { name := "ruleTypes", fn := fun _ => fun
  | [d1, d2] => { results := [.lit (.bool false)], args := [d1, d2] }
  | _ => none }
def RuleTypesWrongFalsely : Prop := ruleTypesRow.holds Try.pinned (OpenSpec.ofChange ruleTypesWrong)

/-- 'sawmilllaw43.RuleFeatures': WHATEVER THE INPUT: true; the input reads as it did. -/
def ruleFeaturesSpec : ChangeSpec := { name := "ruleFeatures", fn := fun _ => fun
  | [d1, d2, d3] => { results := [.lit (.bool true)], args := [d1, d2, d3] }
  | _ => none }
def ruleFeaturesRow : OpenClaim := { program := "ytkdmoefacgbgkaa", sum := "67b8638967e13a7c0e5b63de3f554f89ae88edd00df4b4a75501bd4d7d03895d", func := "sawmill/sawmilllaw43.RuleFeatures", spec := "ruleFeatures", recurses := true, loops := true, apart := false }
def RuleFeaturesSaid : Prop := ruleFeaturesRow.holds Try.pinned (OpenSpec.ofChange ruleFeaturesSpec)

/-- ITS FALSE NEIGHBOUR: 'it returns false'. Refute it at one input. -/
def ruleFeaturesWrong : ChangeSpec := { name := "ruleFeatures", fn := fun _ => fun
  | [d1, d2, d3] => { results := [.lit (.bool false)], args := [d1, d2, d3] }
  | _ => none }
def RuleFeaturesWrongFalsely : Prop := ruleFeaturesRow.holds Try.pinned (OpenSpec.ofChange ruleFeaturesWrong)

/-- 'sawmilllaw43.RuleFirst': WHATEVER THE INPUT: true; the input reads as it did. -/
def ruleFirstSpec : ChangeSpec := { name := "ruleFirst", fn := fun _ => fun
  | [d1, d2] => { results := [.lit (.bool true)], args := [d1, d2] }
  | _ => none }
def ruleFirstRow : OpenClaim := { program := "ytkdmoefacgbgkaa", sum := "67b8638967e13a7c0e5b63de3f554f89ae88edd00df4b4a75501bd4d7d03895d", func := "sawmill/sawmilllaw43.RuleFirst", spec := "ruleFirst", recurses := true, loops := true, apart := false }
def RuleFirstSaid : Prop := ruleFirstRow.holds Try.pinned (OpenSpec.ofChange ruleFirstSpec)

/-- ITS FALSE NEIGHBOUR: 'it returns false'. Refute it at one input. -/
def ruleFirstWrong : ChangeSpec := { name := "ruleFirst", fn := fun _ => fun
  | [d1, d2] => { results := [.lit (.bool false)], args := [d1, d2] }
  | _ => none }
def RuleFirstWrongFalsely : Prop := ruleFirstRow.holds Try.pinned (OpenSpec.ofChange ruleFirstWrong)

/-- 'sawmilllaw43.RuleLogic': WHATEVER THE INPUT: true; the input reads as it did. -/
def ruleLogicSpec : ChangeSpec := { name := "ruleLogic", fn := fun _ => fun
  | [d1, d2, d3] => { results := [.lit (.bool true)], args := [d1, d2, d3] }
  | _ => none }
def ruleLogicRow : OpenClaim := { program := "ytkdmoefacgbgkaa", sum := "67b8638967e13a7c0e5b63de3f554f89ae88edd00df4b4a75501bd4d7d03895d", func := "sawmill/sawmilllaw43.RuleLogic", spec := "ruleLogic", recurses := true, loops := true, apart := false }
def RuleLogicSaid : Prop := ruleLogicRow.holds Try.pinned (OpenSpec.ofChange ruleLogicSpec)

/-- ITS FALSE NEIGHBOUR: 'it returns false'. Refute it at one input. -/
def ruleLogicWrong : ChangeSpec := { name := "ruleLogic", fn := fun _ => fun
  | [d1, d2, d3] => { results := [.lit (.bool false)], args := [d1, d2, d3] }
  | _ => none }
def RuleLogicWrongFalsely : Prop := ruleLogicRow.holds Try.pinned (OpenSpec.ofChange ruleLogicWrong)

/- THE SECOND FORM. 'bulk': how many values and letters a reading holds, each counted each time it is reached (what is shared counts as often as it is met; a slice's spare places count too). A statement '..UptoSaid' is the law's where the arguments, and the package variables that the reading takes, are together of bulk at most 1048576: NARROWER than '..Said'. Prove '..Said' where nothing that the law and all that it calls make is longer than what came in: it says more and counts as full. Else prove '..UptoSaid'. A law counts once. -/
mutual
def uptoBulk {H : Type} : DataW H → Nat
  | .lit (.string bytes) => bytes.length + 1
  | .lit _ => 1
  | .nil => 1
  | .ptr d => uptoBulk d + 1
  | .slice elems spare => uptoBulkAll elems + uptoBulkAll spare + 1
  | .agg parts => uptoBulkAll parts + 1
  | .iface _ d => uptoBulk d + 1
  | .map entries => uptoBulkEntries entries + 1
  | .held _ => 1
def uptoBulkAll {H : Type} : List (DataW H) → Nat
  | [] => 0
  | d :: r => uptoBulk d + uptoBulkAll r
def uptoBulkEntries {H : Type} : List (Lit × DataW H) → Nat
  | [] => 0
  | x :: r => uptoBulkEntry x + uptoBulkEntries r
def uptoBulkEntry {H : Type} : Lit × DataW H → Nat
  | (.string bytes, d) => bytes.length + uptoBulk d + 1
  | (_, d) => uptoBulk d + 1
 end
def uptoSmall : (H : Type) → List (DataW H) → Bool := fun _ ds => decide (uptoBulkAll ds ≤ 1048576)
def OpenSpec.upto (s : _root_.Go.ChangeSpec) : _root_.Go.OpenSpec := { _root_.Go.OpenSpec.ofChange s with cond := some uptoSmall }

/-- 'sawmilllaw43.RuleChecks', WHERE WHAT IT READS IS OF BULK AT MOST 1048576: true; the input reads as it did. -/
def ruleChecksUptoRow : OpenClaim := { program := "ytkdmoefacgbgkaa", sum := "67b8638967e13a7c0e5b63de3f554f89ae88edd00df4b4a75501bd4d7d03895d", func := "sawmill/sawmilllaw43.RuleChecks", spec := "ruleChecks", recurses := true, loops := true, apart := false, narrowed := true }
def RuleChecksUptoSaid : Prop := ruleChecksUptoRow.holds Try.pinned (OpenSpec.upto ruleChecksSpec)

/-- 'sawmilllaw43.RuleEvals', WHERE WHAT IT READS IS OF BULK AT MOST 1048576: true; the input reads as it did. -/
def ruleEvalsUptoRow : OpenClaim := { program := "ytkdmoefacgbgkaa", sum := "67b8638967e13a7c0e5b63de3f554f89ae88edd00df4b4a75501bd4d7d03895d", func := "sawmill/sawmilllaw43.RuleEvals", spec := "ruleEvals", recurses := true, loops := true, apart := false, narrowed := true }
def RuleEvalsUptoSaid : Prop := ruleEvalsUptoRow.holds Try.pinned (OpenSpec.upto ruleEvalsSpec)

/-- 'sawmilllaw43.RuleGrades', WHERE WHAT IT READS IS OF BULK AT MOST 1048576: true; the input reads as it did. -/
def ruleGradesUptoRow : OpenClaim := { program := "ytkdmoefacgbgkaa", sum := "67b8638967e13a7c0e5b63de3f554f89ae88edd00df4b4a75501bd4d7d03895d", func := "sawmill/sawmilllaw43.RuleGrades", spec := "ruleGrades", recurses := true, loops := true, apart := false, narrowed := true }
def RuleGradesUptoSaid : Prop := ruleGradesUptoRow.holds Try.pinned (OpenSpec.upto ruleGradesSpec)

/-- 'sawmilllaw43.RuleTypes', WHERE WHAT IT READS IS OF BULK AT MOST 1048576: true; the input reads as it did. -/
def ruleTypesUptoRow : OpenClaim := { program := "ytkdmoefacgbgkaa", sum := "67b8638967e13a7c0e5b63de3f554f89ae88edd00df4b4a75501bd4d7d03895d", func := "sawmill/sawmilllaw43.RuleTypes", spec := "ruleTypes", recurses := true, loops := true, apart := false, narrowed := true }
def RuleTypesUptoSaid : Prop := ruleTypesUptoRow.holds Try.pinned (OpenSpec.upto ruleTypesSpec)

/-- 'sawmilllaw43.RuleFeatures', WHERE WHAT IT READS IS OF BULK AT MOST 1048576: true; the input reads as it did. -/
def ruleFeaturesUptoRow : OpenClaim := { program := "ytkdmoefacgbgkaa", sum := "67b8638967e13a7c0e5b63de3f554f89ae88edd00df4b4a75501bd4d7d03895d", func := "sawmill/sawmilllaw43.RuleFeatures", spec := "ruleFeatures", recurses := true, loops := true, apart := false, narrowed := true }
def RuleFeaturesUptoSaid : Prop := ruleFeaturesUptoRow.holds Try.pinned (OpenSpec.upto ruleFeaturesSpec)

/-- 'sawmilllaw43.RuleFirst', WHERE WHAT IT READS IS OF BULK AT MOST 1048576: true; the input reads as it did. -/
def ruleFirstUptoRow : OpenClaim := { program := "ytkdmoefacgbgkaa", sum := "67b8638967e13a7c0e5b63de3f554f89ae88edd00df4b4a75501bd4d7d03895d", func := "sawmill/sawmilllaw43.RuleFirst", spec := "ruleFirst", recurses := true, loops := true, apart := false, narrowed := true }
def RuleFirstUptoSaid : Prop := ruleFirstUptoRow.holds Try.pinned (OpenSpec.upto ruleFirstSpec)

/-- 'sawmilllaw43.RuleLogic', WHERE WHAT IT READS IS OF BULK AT MOST 1048576: true; the input reads as it did. -/
def ruleLogicUptoRow : OpenClaim := { program := "ytkdmoefacgbgkaa", sum := "67b8638967e13a7c0e5b63de3f554f89ae88edd00df4b4a75501bd4d7d03895d", func := "sawmill/sawmilllaw43.RuleLogic", spec := "ruleLogic", recurses := true, loops := true, apart := false, narrowed := true }
def RuleLogicUptoSaid : Prop := ruleLogicUptoRow.holds Try.pinned (OpenSpec.upto ruleLogicSpec)

end Rows
end Go.Proofs.Ytkdmoefacgbgkaa
