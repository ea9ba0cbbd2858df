/-
  No cell of these rows narrows 'for every input' (looked for: loops, veiled, ifaces, maps, wideKeys, modest, calm, conditions, laid).
  DERIVED. THE GIVEN ROWS OF THIS SEAT. 5 by the template 'for every input the law returns true; each argument reads behind the call as it read before'; 0 by the template 'total and deterministic' (their statements: YtjhlidaikegelaaTotals.lean).
  GIVEN WITH THE SEED: the statements are not yours to turn. If you find one false, say at which input.
  Laid BY PROGRAM, IN A SANDBOX (cutbox-rows.mjs): the forced cells as the released guide's own fill.sh prints them over the translation 3a317a5df7ca3316… (all of the seat's roots in one cut). By AI agents, Wed Nov 11 2026. No macro, syntax, notation, axiom, sorry.
-/
import Derived.Test.YtjhlidaikegelaaChecked
import GoSem.Claim
import GoSem.ClaimJoined
import GoSem.ClaimMapViews
import Derived.JoinedTies
import Derived.KernelRfl
namespace Go.Proofs.Ytjhlidaikegelaa
/- THE CELL 'sum', in the pinned program and in every row, IS THE sha256 OF THE DUMP (.gsa) THAT YtjhlidaikegelaaProg.lean LOADS. Nothing in Lean hashes anything: it is a label: what it is worth is what the hold of that sum in a sandbox is worth. -/
noncomputable def Try.pinned : Pinned := { name := "ytjhlidaikegelaa", sum := "3a317a5df7ca3316e8e16f46cc96bfc636c22dc7072ee79af25bbafe485cf639", checked := Try.checked }
namespace Rows
def none {H : Type} : Left H := { results := [], args := [] }

/-- 'sawmilllaw42.FeatureGets': WHATEVER THE INPUT: true; the input reads as it did. -/
def featureGetsSpec : ChangeSpec := { name := "featureGets", fn := fun _ => fun
  | [d1, d2] => { results := [.lit (.bool true)], args := [d1, d2] }
  | _ => none }
def featureGetsRow : OpenClaim := { program := "ytjhlidaikegelaa", sum := "3a317a5df7ca3316e8e16f46cc96bfc636c22dc7072ee79af25bbafe485cf639", func := "sawmill/sawmilllaw42.FeatureGets", spec := "featureGets", unfollowed := true, recurses := true, apart := false }
def FeatureGetsSaid : Prop := featureGetsRow.holds Try.pinned (OpenSpec.ofChange featureGetsSpec)

/-- ITS FALSE NEIGHBOUR: 'it returns false'. Refute it at one input. -/
def featureGetsWrong : ChangeSpec := { name := "featureGets", fn := fun _ => fun
  | [d1, d2] => { results := [.lit (.bool false)], args := [d1, d2] }
  | _ => none }
def FeatureGetsWrongFalsely : Prop := featureGetsRow.holds Try.pinned (OpenSpec.ofChange featureGetsWrong)

/-- 'sawmilllaw42.FeatureCounts': WHATEVER THE INPUT: true; the input reads as it did. -/
def featureCountsSpec : ChangeSpec := { name := "featureCounts", fn := fun _ => fun
  | [d] => { results := [.lit (.bool true)], args := [d] }
  | _ => none }
def featureCountsRow : OpenClaim := { program := "ytjhlidaikegelaa", sum := "3a317a5df7ca3316e8e16f46cc96bfc636c22dc7072ee79af25bbafe485cf639", func := "sawmill/sawmilllaw42.FeatureCounts", spec := "featureCounts", unfollowed := true, recurses := true, apart := false }
def FeatureCountsSaid : Prop := featureCountsRow.holds Try.pinned (OpenSpec.ofChange featureCountsSpec)

/-- ITS FALSE NEIGHBOUR: 'it returns false'. Refute it at one input. -/
def featureCountsWrong : ChangeSpec := { name := "featureCounts", fn := fun _ => fun
  | [d] => { results := [.lit (.bool false)], args := [d] }
  | _ => none }
def FeatureCountsWrongFalsely : Prop := featureCountsRow.holds Try.pinned (OpenSpec.ofChange featureCountsWrong)

/-- 'sawmilllaw42.FeatureAgrees': WHATEVER THE INPUT: true; the input reads as it did. -/
def featureAgreesSpec : ChangeSpec := { name := "featureAgrees", fn := fun _ => fun
  | [d] => { results := [.lit (.bool true)], args := [d] }
  | _ => none }
def featureAgreesRow : OpenClaim := { program := "ytjhlidaikegelaa", sum := "3a317a5df7ca3316e8e16f46cc96bfc636c22dc7072ee79af25bbafe485cf639", func := "sawmill/sawmilllaw42.FeatureAgrees", spec := "featureAgrees", unfollowed := true, recurses := true, apart := false }
def FeatureAgreesSaid : Prop := featureAgreesRow.holds Try.pinned (OpenSpec.ofChange featureAgreesSpec)

/-- ITS FALSE NEIGHBOUR: 'it returns false'. Refute it at one input. -/
def featureAgreesWrong : ChangeSpec := { name := "featureAgrees", fn := fun _ => fun
  | [d] => { results := [.lit (.bool false)], args := [d] }
  | _ => none }
def FeatureAgreesWrongFalsely : Prop := featureAgreesRow.holds Try.pinned (OpenSpec.ofChange featureAgreesWrong)

/-- 'sawmilllaw42.FeatureOrder': WHATEVER THE INPUT: true; the input reads as it did. -/
def featureOrderSpec : ChangeSpec := { name := "featureOrder", fn := fun _ => fun
  | [d1, d2] => { results := [.lit (.bool true)], args := [d1, d2] }
  | _ => none }
def featureOrderRow : OpenClaim := { program := "ytjhlidaikegelaa", sum := "3a317a5df7ca3316e8e16f46cc96bfc636c22dc7072ee79af25bbafe485cf639", func := "sawmill/sawmilllaw42.FeatureOrder", spec := "featureOrder", unfollowed := true, recurses := true, apart := false }
def FeatureOrderSaid : Prop := featureOrderRow.holds Try.pinned (OpenSpec.ofChange featureOrderSpec)

/-- ITS FALSE NEIGHBOUR: 'it returns false'. Refute it at one input. -/
def featureOrderWrong : ChangeSpec := { name := "featureOrder", fn := fun _ => fun
  | [d1, d2] => { results := [.lit (.bool false)], args := [d1, d2] }
  | _ => none }
def FeatureOrderWrongFalsely : Prop := featureOrderRow.holds Try.pinned (OpenSpec.ofChange featureOrderWrong)

/-- 'sawmilllaw42.FeatureNamed': WHATEVER THE INPUT: true; the input reads as it did. -/
def featureNamedSpec : ChangeSpec := { name := "featureNamed", fn := fun _ => fun
  | [d] => { results := [.lit (.bool true)], args := [d] }
  | _ => none }
def featureNamedRow : OpenClaim := { program := "ytjhlidaikegelaa", sum := "3a317a5df7ca3316e8e16f46cc96bfc636c22dc7072ee79af25bbafe485cf639", func := "sawmill/sawmilllaw42.FeatureNamed", spec := "featureNamed", unfollowed := true, recurses := true, apart := false }
def FeatureNamedSaid : Prop := featureNamedRow.holds Try.pinned (OpenSpec.ofChange featureNamedSpec)

/-- ITS FALSE NEIGHBOUR: 'it returns false'. Refute it at one input. -/
def featureNamedWrong : ChangeSpec := { name := "featureNamed", fn := fun _ => fun
  | [d] => { results := [.lit (.bool false)], args := [d] }
  | _ => none }
def FeatureNamedWrongFalsely : Prop := featureNamedRow.holds Try.pinned (OpenSpec.ofChange featureNamedWrong)

/- THE SECOND FORM. 'bulk': how many values and letters a reading holds, each counted each time it is reached (what is shared counts as often as it is met; a slice's spare places count too). A statement '..UptoSaid' is the law's where the arguments, and the package variables that the reading takes, are together of bulk at most 1048576: NARROWER than '..Said'. Prove '..Said' where nothing that the law and all that it calls make is longer than what came in: it says more and counts as full. Else prove '..UptoSaid'. A law counts once. -/
mutual
def uptoBulk {H : Type} : DataW H → Nat
  | .lit (.string bytes) => bytes.length + 1
  | .lit _ => 1
  | .nil => 1
  | .ptr d => uptoBulk d + 1
  | .slice elems spare => uptoBulkAll elems + uptoBulkAll spare + 1
  | .agg parts => uptoBulkAll parts + 1
  | .iface _ d => uptoBulk d + 1
  | .map entries => uptoBulkEntries entries + 1
  | .held _ => 1
def uptoBulkAll {H : Type} : List (DataW H) → Nat
  | [] => 0
  | d :: r => uptoBulk d + uptoBulkAll r
def uptoBulkEntries {H : Type} : List (Lit × DataW H) → Nat
  | [] => 0
  | x :: r => uptoBulkEntry x + uptoBulkEntries r
def uptoBulkEntry {H : Type} : Lit × DataW H → Nat
  | (.string bytes, d) => bytes.length + uptoBulk d + 1
  | (_, d) => uptoBulk d + 1
 end
def uptoSmall : (H : Type) → List (DataW H) → Bool := fun _ ds => decide (uptoBulkAll ds ≤ 1048576)
def OpenSpec.upto (s : _root_.Go.ChangeSpec) : _root_.Go.OpenSpec := { _root_.Go.OpenSpec.ofChange s with cond := some uptoSmall }

/-- 'sawmilllaw42.FeatureGets', WHERE WHAT IT READS IS OF BULK AT MOST 1048576: true; the input reads as it did. -/
def featureGetsUptoRow : OpenClaim := { program := "ytjhlidaikegelaa", sum := "3a317a5df7ca3316e8e16f46cc96bfc636c22dc7072ee79af25bbafe485cf639", func := "sawmill/sawmilllaw42.FeatureGets", spec := "featureGets", unfollowed := true, recurses := true, apart := false, narrowed := true }
def FeatureGetsUptoSaid : Prop := featureGetsUptoRow.holds Try.pinned (OpenSpec.upto featureGetsSpec)

/-- 'sawmilllaw42.FeatureCounts', WHERE WHAT IT READS IS OF BULK AT MOST 1048576: true; the input reads as it did. -/
def featureCountsUptoRow : OpenClaim := { program := "ytjhlidaikegelaa", sum := "3a317a5df7ca3316e8e16f46cc96bfc636c22dc7072ee79af25bbafe485cf639", func := "sawmill/sawmilllaw42.FeatureCounts", spec := "featureCounts", unfollowed := true, recurses := true, apart := false, narrowed := true }
def FeatureCountsUptoSaid : Prop := featureCountsUptoRow.holds Try.pinned (OpenSpec.upto featureCountsSpec)

/-- 'sawmilllaw42.FeatureAgrees', WHERE WHAT IT READS IS OF BULK AT MOST 1048576: true; the input reads as it did. -/
def featureAgreesUptoRow : OpenClaim := { program := "ytjhlidaikegelaa", sum := "3a317a5df7ca3316e8e16f46cc96bfc636c22dc7072ee79af25bbafe485cf639", func := "sawmill/sawmilllaw42.FeatureAgrees", spec := "featureAgrees", unfollowed := true, recurses := true, apart := false, narrowed := true }
def FeatureAgreesUptoSaid : Prop := featureAgreesUptoRow.holds Try.pinned (OpenSpec.upto featureAgreesSpec)

/-- 'sawmilllaw42.FeatureOrder', WHERE WHAT IT READS IS OF BULK AT MOST 1048576: true; the input reads as it did. -/
def featureOrderUptoRow : OpenClaim := { program := "ytjhlidaikegelaa", sum := "3a317a5df7ca3316e8e16f46cc96bfc636c22dc7072ee79af25bbafe485cf639", func := "sawmill/sawmilllaw42.FeatureOrder", spec := "featureOrder", unfollowed := true, recurses := true, apart := false, narrowed := true }
def FeatureOrderUptoSaid : Prop := featureOrderUptoRow.holds Try.pinned (OpenSpec.upto featureOrderSpec)

/-- 'sawmilllaw42.FeatureNamed', WHERE WHAT IT READS IS OF BULK AT MOST 1048576: true; the input reads as it did. -/
def featureNamedUptoRow : OpenClaim := { program := "ytjhlidaikegelaa", sum := "3a317a5df7ca3316e8e16f46cc96bfc636c22dc7072ee79af25bbafe485cf639", func := "sawmill/sawmilllaw42.FeatureNamed", spec := "featureNamed", unfollowed := true, recurses := true, apart := false, narrowed := true }
def FeatureNamedUptoSaid : Prop := featureNamedUptoRow.holds Try.pinned (OpenSpec.upto featureNamedSpec)

end Rows
end Go.Proofs.Ytjhlidaikegelaa
