/-
  No cell of these rows narrows 'for every input' (looked for: loops, veiled, ifaces, maps, wideKeys, modest, calm, conditions, laid).
  DERIVED. THE GIVEN ROWS OF THIS SEAT. 12 by the template 'for every input the law returns true; each argument reads behind the call as it read before'; 0 by the template 'total and deterministic' (their statements: YtmnipfincjpofaaTotals.lean).
  GIVEN WITH THE SEED: the statements are not yours to turn. If you find one false, say at which input.
  Laid BY PROGRAM, IN A SANDBOX (cutbox-rows.mjs): the forced cells as the released guide's own fill.sh prints them over the translation fabf0d8e05de22b5… (all of the seat's roots in one cut). By AI agents, Wed Nov 11 2026. No macro, syntax, notation, axiom, sorry.
-/
import Derived.Test.YtmnipfincjpofaaChecked
import GoSem.Claim
import GoSem.ClaimJoined
import GoSem.ClaimMapViews
import Derived.JoinedTies
import Derived.KernelRfl
namespace Go.Proofs.Ytmnipfincjpofaa
/- THE CELL 'sum', in the pinned program and in every row, IS THE sha256 OF THE DUMP (.gsa) THAT YtmnipfincjpofaaProg.lean LOADS. Nothing in Lean hashes anything: it is a label: what it is worth is what the hold of that sum in a sandbox is worth. -/
noncomputable def Try.pinned : Pinned := { name := "ytmnipfincjpofaa", sum := "fabf0d8e05de22b5e09fd8bad4e3d802272f1a00775cf03bde9937aa0dcb90cb", checked := Try.checked }
namespace Rows
def none {H : Type} : Left H := { results := [], args := [] }

/-- 'sawmilllaw35.AirTable': WHATEVER THE INPUT: true; the input reads as it did. -/
def airTableSpec : ChangeSpec := { name := "airTable", fn := fun _ => fun
  | [] => { results := [.lit (.bool true)], args := [] }
  | _ => none }
def airTableRow : OpenClaim := { program := "ytmnipfincjpofaa", sum := "fabf0d8e05de22b5e09fd8bad4e3d802272f1a00775cf03bde9937aa0dcb90cb", func := "sawmill/sawmilllaw35.AirTable", spec := "airTable", apart := false }
def AirTableSaid : Prop := airTableRow.holds Try.pinned (OpenSpec.ofChange airTableSpec)

/-- ITS FALSE NEIGHBOUR: 'it returns false'. Refute it at one input. -/
def airTableWrong : ChangeSpec := { name := "airTable", fn := fun _ => fun
  | [] => { results := [.lit (.bool false)], args := [] }
  | _ => none }
def AirTableWrongFalsely : Prop := airTableRow.holds Try.pinned (OpenSpec.ofChange airTableWrong)

/-- 'sawmilllaw35.AirEmcs': WHATEVER THE INPUT: true; the input reads as it did. -/
def airEmcsSpec : ChangeSpec := { name := "airEmcs", fn := fun _ => fun
  | [d] => { results := [.lit (.bool true)], args := [d] }
  | _ => none }
def airEmcsRow : OpenClaim := { program := "ytmnipfincjpofaa", sum := "fabf0d8e05de22b5e09fd8bad4e3d802272f1a00775cf03bde9937aa0dcb90cb", func := "sawmill/sawmilllaw35.AirEmcs", spec := "airEmcs", apart := false }
def AirEmcsSaid : Prop := airEmcsRow.holds Try.pinned (OpenSpec.ofChange airEmcsSpec)

/-- ITS FALSE NEIGHBOUR: 'it returns false'. Refute it at one input. -/
def airEmcsWrong : ChangeSpec := { name := "airEmcs", fn := fun _ => fun
  | [d] => { results := [.lit (.bool false)], args := [d] }
  | _ => none }
def AirEmcsWrongFalsely : Prop := airEmcsRow.holds Try.pinned (OpenSpec.ofChange airEmcsWrong)

/-- 'sawmilllaw35.AirNexts': WHATEVER THE INPUT: true; the input reads as it did. -/
def airNextsSpec : ChangeSpec := { name := "airNexts", fn := fun _ => fun
  | [d] => { results := [.lit (.bool true)], args := [d] }
  | _ => none }
def airNextsRow : OpenClaim := { program := "ytmnipfincjpofaa", sum := "fabf0d8e05de22b5e09fd8bad4e3d802272f1a00775cf03bde9937aa0dcb90cb", func := "sawmill/sawmilllaw35.AirNexts", spec := "airNexts", apart := false }
def AirNextsSaid : Prop := airNextsRow.holds Try.pinned (OpenSpec.ofChange airNextsSpec)

/-- ITS FALSE NEIGHBOUR: 'it returns false'. Refute it at one input. -/
def airNextsWrong : ChangeSpec := { name := "airNexts", fn := fun _ => fun
  | [d] => { results := [.lit (.bool false)], args := [d] }
  | _ => none }
def AirNextsWrongFalsely : Prop := airNextsRow.holds Try.pinned (OpenSpec.ofChange airNextsWrong)

/-- 'sawmilllaw35.AirFalls': WHATEVER THE INPUT: true; the input reads as it did. -/
def airFallsSpec : ChangeSpec := { name := "airFalls", fn := fun _ => fun
  | [d1, d2] => { results := [.lit (.bool true)], args := [d1, d2] }
  | _ => none }
def airFallsRow : OpenClaim := { program := "ytmnipfincjpofaa", sum := "fabf0d8e05de22b5e09fd8bad4e3d802272f1a00775cf03bde9937aa0dcb90cb", func := "sawmill/sawmilllaw35.AirFalls", spec := "airFalls", apart := false }
def AirFallsSaid : Prop := airFallsRow.holds Try.pinned (OpenSpec.ofChange airFallsSpec)

/-- ITS FALSE NEIGHBOUR: 'it returns false'. Refute it at one input. -/
def airFallsWrong : ChangeSpec := { name := "airFalls", fn := fun _ => fun
  | [d1, d2] => { results := [.lit (.bool false)], args := [d1, d2] }
  | _ => none }
def AirFallsWrongFalsely : Prop := airFallsRow.holds Try.pinned (OpenSpec.ofChange airFallsWrong)

/-- 'sawmilllaw35.AirGoes': WHATEVER THE INPUT: true; the input reads as it did. -/
def airGoesSpec : ChangeSpec := { name := "airGoes", fn := fun _ => fun
  | [d] => { results := [.lit (.bool true)], args := [d] }
  | _ => none }
def airGoesRow : OpenClaim := { program := "ytmnipfincjpofaa", sum := "fabf0d8e05de22b5e09fd8bad4e3d802272f1a00775cf03bde9937aa0dcb90cb", func := "sawmill/sawmilllaw35.AirGoes", spec := "airGoes", apart := false }
def AirGoesSaid : Prop := airGoesRow.holds Try.pinned (OpenSpec.ofChange airGoesSpec)

/-- ITS FALSE NEIGHBOUR: 'it returns false'. Refute it at one input. -/
def airGoesWrong : ChangeSpec := { name := "airGoes", fn := fun _ => fun
  | [d] => { results := [.lit (.bool false)], args := [d] }
  | _ => none }
def AirGoesWrongFalsely : Prop := airGoesRow.holds Try.pinned (OpenSpec.ofChange airGoesWrong)

/-- 'sawmilllaw35.AirReaches': WHATEVER THE INPUT: true; the input reads as it did. -/
def airReachesSpec : ChangeSpec := { name := "airReaches", fn := fun _ => fun
  | [d1, d2, d3] => { results := [.lit (.bool true)], args := [d1, d2, d3] }
  | _ => none }
def airReachesRow : OpenClaim := { program := "ytmnipfincjpofaa", sum := "fabf0d8e05de22b5e09fd8bad4e3d802272f1a00775cf03bde9937aa0dcb90cb", func := "sawmill/sawmilllaw35.AirReaches", spec := "airReaches", apart := false }
def AirReachesSaid : Prop := airReachesRow.holds Try.pinned (OpenSpec.ofChange airReachesSpec)

/-- ITS FALSE NEIGHBOUR: 'it returns false'. Refute it at one input. -/
def airReachesWrong : ChangeSpec := { name := "airReaches", fn := fun _ => fun
  | [d1, d2, d3] => { results := [.lit (.bool false)], args := [d1, d2, d3] }
  | _ => none }
def AirReachesWrongFalsely : Prop := airReachesRow.holds Try.pinned (OpenSpec.ofChange airReachesWrong)

/-- 'sawmilllaw36.MoistTicks': WHATEVER THE INPUT: true; the input reads as it did. -/
def moistTicksSpec : ChangeSpec := { name := "moistTicks", fn := fun _ => fun
  | [d] => { results := [.lit (.bool true)], args := [d] }
  | _ => none }
def moistTicksRow : OpenClaim := { program := "ytmnipfincjpofaa", sum := "fabf0d8e05de22b5e09fd8bad4e3d802272f1a00775cf03bde9937aa0dcb90cb", func := "sawmill/sawmilllaw36.MoistTicks", spec := "moistTicks", named := ["math/bits.divideError", "math/bits.overflowError"], apart := false }
def MoistTicksSaid : Prop := moistTicksRow.holds Try.pinned (OpenSpec.ofChange moistTicksSpec)

/-- ITS FALSE NEIGHBOUR: 'it returns false'. Refute it at one input. -/
def moistTicksWrong : ChangeSpec := { name := "moistTicks", fn := fun _ => fun
  | [d] => { results := [.lit (.bool false)], args := [d] }
  | _ => none }
def MoistTicksWrongFalsely : Prop := moistTicksRow.holds Try.pinned (OpenSpec.ofChange moistTicksWrong)

/-- 'sawmilllaw36.MoistMeans': WHATEVER THE INPUT: true; the input reads as it did. -/
def moistMeansSpec : ChangeSpec := { name := "moistMeans", fn := fun _ => fun
  | [d1, d2] => { results := [.lit (.bool true)], args := [d1, d2] }
  | _ => none }
def moistMeansRow : OpenClaim := { program := "ytmnipfincjpofaa", sum := "fabf0d8e05de22b5e09fd8bad4e3d802272f1a00775cf03bde9937aa0dcb90cb", func := "sawmill/sawmilllaw36.MoistMeans", spec := "moistMeans", named := ["math/bits.divideError", "math/bits.overflowError"], apart := false }
def MoistMeansSaid : Prop := moistMeansRow.holds Try.pinned (OpenSpec.ofChange moistMeansSpec)

/-- ITS FALSE NEIGHBOUR: 'it returns false'. Refute it at one input. -/
def moistMeansWrong : ChangeSpec := { name := "moistMeans", fn := fun _ => fun
  | [d1, d2] => { results := [.lit (.bool false)], args := [d1, d2] }
  | _ => none }
def MoistMeansWrongFalsely : Prop := moistMeansRow.holds Try.pinned (OpenSpec.ofChange moistMeansWrong)

/-- 'sawmilllaw36.MoistBounds': WHATEVER THE INPUT: true; the input reads as it did. -/
def moistBoundsSpec : ChangeSpec := { name := "moistBounds", fn := fun _ => fun
  | [d] => { results := [.lit (.bool true)], args := [d] }
  | _ => none }
def moistBoundsRow : OpenClaim := { program := "ytmnipfincjpofaa", sum := "fabf0d8e05de22b5e09fd8bad4e3d802272f1a00775cf03bde9937aa0dcb90cb", func := "sawmill/sawmilllaw36.MoistBounds", spec := "moistBounds", named := ["math/bits.divideError", "math/bits.overflowError"], apart := false }
def MoistBoundsSaid : Prop := moistBoundsRow.holds Try.pinned (OpenSpec.ofChange moistBoundsSpec)

/-- ITS FALSE NEIGHBOUR: 'it returns false'. Refute it at one input. -/
def moistBoundsWrong : ChangeSpec := { name := "moistBounds", fn := fun _ => fun
  | [d] => { results := [.lit (.bool false)], args := [d] }
  | _ => none }
def MoistBoundsWrongFalsely : Prop := moistBoundsRow.holds Try.pinned (OpenSpec.ofChange moistBoundsWrong)

/-- 'sawmilllaw36.MoistFans': WHATEVER THE INPUT: true; the input reads as it did. -/
def moistFansSpec : ChangeSpec := { name := "moistFans", fn := fun _ => fun
  | [d] => { results := [.lit (.bool true)], args := [d] }
  | _ => none }
def moistFansRow : OpenClaim := { program := "ytmnipfincjpofaa", sum := "fabf0d8e05de22b5e09fd8bad4e3d802272f1a00775cf03bde9937aa0dcb90cb", func := "sawmill/sawmilllaw36.MoistFans", spec := "moistFans", named := ["math/bits.divideError", "math/bits.overflowError"], apart := false }
def MoistFansSaid : Prop := moistFansRow.holds Try.pinned (OpenSpec.ofChange moistFansSpec)

/-- ITS FALSE NEIGHBOUR: 'it returns false'. Refute it at one input. -/
def moistFansWrong : ChangeSpec := { name := "moistFans", fn := fun _ => fun
  | [d] => { results := [.lit (.bool false)], args := [d] }
  | _ => none }
def MoistFansWrongFalsely : Prop := moistFansRow.holds Try.pinned (OpenSpec.ofChange moistFansWrong)

/-- 'sawmilllaw36.MoistThick': WHATEVER THE INPUT: true; the input reads as it did. -/
def moistThickSpec : ChangeSpec := { name := "moistThick", fn := fun _ => fun
  | [d1, d2] => { results := [.lit (.bool true)], args := [d1, d2] }
  | _ => none }
def moistThickRow : OpenClaim := { program := "ytmnipfincjpofaa", sum := "fabf0d8e05de22b5e09fd8bad4e3d802272f1a00775cf03bde9937aa0dcb90cb", func := "sawmill/sawmilllaw36.MoistThick", spec := "moistThick", named := ["math/bits.divideError", "math/bits.overflowError"], apart := false }
def MoistThickSaid : Prop := moistThickRow.holds Try.pinned (OpenSpec.ofChange moistThickSpec)

/-- ITS FALSE NEIGHBOUR: 'it returns false'. Refute it at one input. -/
def moistThickWrong : ChangeSpec := { name := "moistThick", fn := fun _ => fun
  | [d1, d2] => { results := [.lit (.bool false)], args := [d1, d2] }
  | _ => none }
def MoistThickWrongFalsely : Prop := moistThickRow.holds Try.pinned (OpenSpec.ofChange moistThickWrong)

/-- 'sawmilllaw36.MoistSums': WHATEVER THE INPUT: true; the input reads as it did. -/
def moistSumsSpec : ChangeSpec := { name := "moistSums", fn := fun _ => fun
  | [d] => { results := [.lit (.bool true)], args := [d] }
  | _ => none }
def moistSumsRow : OpenClaim := { program := "ytmnipfincjpofaa", sum := "fabf0d8e05de22b5e09fd8bad4e3d802272f1a00775cf03bde9937aa0dcb90cb", func := "sawmill/sawmilllaw36.MoistSums", spec := "moistSums", named := ["math/bits.divideError", "math/bits.overflowError"], apart := false }
def MoistSumsSaid : Prop := moistSumsRow.holds Try.pinned (OpenSpec.ofChange moistSumsSpec)

/-- ITS FALSE NEIGHBOUR: 'it returns false'. Refute it at one input. -/
def moistSumsWrong : ChangeSpec := { name := "moistSums", fn := fun _ => fun
  | [d] => { results := [.lit (.bool false)], args := [d] }
  | _ => none }
def MoistSumsWrongFalsely : Prop := moistSumsRow.holds Try.pinned (OpenSpec.ofChange moistSumsWrong)

/- THE SECOND FORM. 'bulk': how many values and letters a reading holds, each counted each time it is reached (what is shared counts as often as it is met; a slice's spare places count too). A statement '..UptoSaid' is the law's where the arguments, and the package variables that the reading takes, are together of bulk at most 1048576: NARROWER than '..Said'. Prove '..Said' where nothing that the law and all that it calls make is longer than what came in: it says more and counts as full. Else prove '..UptoSaid'. A law counts once. -/
mutual
def uptoBulk {H : Type} : DataW H → Nat
  | .lit (.string bytes) => bytes.length + 1
  | .lit _ => 1
  | .nil => 1
  | .ptr d => uptoBulk d + 1
  | .slice elems spare => uptoBulkAll elems + uptoBulkAll spare + 1
  | .agg parts => uptoBulkAll parts + 1
  | .iface _ d => uptoBulk d + 1
  | .map entries => uptoBulkEntries entries + 1
  | .held _ => 1
def uptoBulkAll {H : Type} : List (DataW H) → Nat
  | [] => 0
  | d :: r => uptoBulk d + uptoBulkAll r
def uptoBulkEntries {H : Type} : List (Lit × DataW H) → Nat
  | [] => 0
  | x :: r => uptoBulkEntry x + uptoBulkEntries r
def uptoBulkEntry {H : Type} : Lit × DataW H → Nat
  | (.string bytes, d) => bytes.length + uptoBulk d + 1
  | (_, d) => uptoBulk d + 1
 end
def uptoSmall : (H : Type) → List (DataW H) → Bool := fun _ ds => decide (uptoBulkAll ds ≤ 1048576)
def OpenSpec.upto (s : _root_.Go.ChangeSpec) : _root_.Go.OpenSpec := { _root_.Go.OpenSpec.ofChange s with cond := some uptoSmall }

/-- 'sawmilllaw35.AirTable', WHERE WHAT IT READS IS OF BULK AT MOST 1048576: true; the input reads as it did. -/
def airTableUptoRow : OpenClaim := { program := "ytmnipfincjpofaa", sum := "fabf0d8e05de22b5e09fd8bad4e3d802272f1a00775cf03bde9937aa0dcb90cb", func := "sawmill/sawmilllaw35.AirTable", spec := "airTable", apart := false, narrowed := true }
def AirTableUptoSaid : Prop := airTableUptoRow.holds Try.pinned (OpenSpec.upto airTableSpec)

/-- 'sawmilllaw35.AirEmcs', WHERE WHAT IT READS IS OF BULK AT MOST 1048576: true; the input reads as it did. -/
def airEmcsUptoRow : OpenClaim := { program := "ytmnipfincjpofaa", sum := "fabf0d8e05de22b5e09fd8bad4e3d802272f1a00775cf03bde9937aa0dcb90cb", func := "sawmill/sawmilllaw35.AirEmcs", spec := "airEmcs", apart := false, narrowed := true }
def AirEmcsUptoSaid : Prop := airEmcsUptoRow.holds Try.pinned (OpenSpec.upto airEmcsSpec)

/-- 'sawmilllaw35.AirNexts', WHERE WHAT IT READS IS OF BULK AT MOST 1048576: true; the input reads as it did. -/
def airNextsUptoRow : OpenClaim := { program := "ytmnipfincjpofaa", sum := "fabf0d8e05de22b5e09fd8bad4e3d802272f1a00775cf03bde9937aa0dcb90cb", func := "sawmill/sawmilllaw35.AirNexts", spec := "airNexts", apart := false, narrowed := true }
def AirNextsUptoSaid : Prop := airNextsUptoRow.holds Try.pinned (OpenSpec.upto airNextsSpec)

/-- 'sawmilllaw35.AirFalls', WHERE WHAT IT READS IS OF BULK AT MOST 1048576: true; the input reads as it did. -/
def airFallsUptoRow : OpenClaim := { program := "ytmnipfincjpofaa", sum := "fabf0d8e05de22b5e09fd8bad4e3d802272f1a00775cf03bde9937aa0dcb90cb", func := "sawmill/sawmilllaw35.AirFalls", spec := "airFalls", apart := false, narrowed := true }
def AirFallsUptoSaid : Prop := airFallsUptoRow.holds Try.pinned (OpenSpec.upto airFallsSpec)

/-- 'sawmilllaw35.AirGoes', WHERE WHAT IT READS IS OF BULK AT MOST 1048576: true; the input reads as it did. -/
def airGoesUptoRow : OpenClaim := { program := "ytmnipfincjpofaa", sum := "fabf0d8e05de22b5e09fd8bad4e3d802272f1a00775cf03bde9937aa0dcb90cb", func := "sawmill/sawmilllaw35.AirGoes", spec := "airGoes", apart := false, narrowed := true }
def AirGoesUptoSaid : Prop := airGoesUptoRow.holds Try.pinned (OpenSpec.upto airGoesSpec)

/-- 'sawmilllaw35.AirReaches', WHERE WHAT IT READS IS OF BULK AT MOST 1048576: true; the input reads as it did. -/
def airReachesUptoRow : OpenClaim := { program := "ytmnipfincjpofaa", sum := "fabf0d8e05de22b5e09fd8bad4e3d802272f1a00775cf03bde9937aa0dcb90cb", func := "sawmill/sawmilllaw35.AirReaches", spec := "airReaches", apart := false, narrowed := true }
def AirReachesUptoSaid : Prop := airReachesUptoRow.holds Try.pinned (OpenSpec.upto airReachesSpec)

/-- 'sawmilllaw36.MoistTicks', WHERE WHAT IT READS IS OF BULK AT MOST 1048576: true; the input reads as it did. -/
def moistTicksUptoRow : OpenClaim := { program := "ytmnipfincjpofaa", sum := "fabf0d8e05de22b5e09fd8bad4e3d802272f1a00775cf03bde9937aa0dcb90cb", func := "sawmill/sawmilllaw36.MoistTicks", spec := "moistTicks", named := ["math/bits.divideError", "math/bits.overflowError"], apart := false, narrowed := true }
def MoistTicksUptoSaid : Prop := moistTicksUptoRow.holds Try.pinned (OpenSpec.upto moistTicksSpec)

/-- 'sawmilllaw36.MoistMeans', WHERE WHAT IT READS IS OF BULK AT MOST 1048576: true; the input reads as it did. -/
def moistMeansUptoRow : OpenClaim := { program := "ytmnipfincjpofaa", sum := "fabf0d8e05de22b5e09fd8bad4e3d802272f1a00775cf03bde9937aa0dcb90cb", func := "sawmill/sawmilllaw36.MoistMeans", spec := "moistMeans", named := ["math/bits.divideError", "math/bits.overflowError"], apart := false, narrowed := true }
def MoistMeansUptoSaid : Prop := moistMeansUptoRow.holds Try.pinned (OpenSpec.upto moistMeansSpec)

/-- 'sawmilllaw36.MoistBounds', WHERE WHAT IT READS IS OF BULK AT MOST 1048576: true; the input reads as it did. -/
def moistBoundsUptoRow : OpenClaim := { program := "ytmnipfincjpofaa", sum := "fabf0d8e05de22b5e09fd8bad4e3d802272f1a00775cf03bde9937aa0dcb90cb", func := "sawmill/sawmilllaw36.MoistBounds", spec := "moistBounds", named := ["math/bits.divideError", "math/bits.overflowError"], apart := false, narrowed := true }
def MoistBoundsUptoSaid : Prop := moistBoundsUptoRow.holds Try.pinned (OpenSpec.upto moistBoundsSpec)

/-- 'sawmilllaw36.MoistFans', WHERE WHAT IT READS IS OF BULK AT MOST 1048576: true; the input reads as it did. -/
def moistFansUptoRow : OpenClaim := { program := "ytmnipfincjpofaa", sum := "fabf0d8e05de22b5e09fd8bad4e3d802272f1a00775cf03bde9937aa0dcb90cb", func := "sawmill/sawmilllaw36.MoistFans", spec := "moistFans", named := ["math/bits.divideError", "math/bits.overflowError"], apart := false, narrowed := true }
def MoistFansUptoSaid : Prop := moistFansUptoRow.holds Try.pinned (OpenSpec.upto moistFansSpec)

/-- 'sawmilllaw36.MoistThick', WHERE WHAT IT READS IS OF BULK AT MOST 1048576: true; the input reads as it did. -/
def moistThickUptoRow : OpenClaim := { program := "ytmnipfincjpofaa", sum := "fabf0d8e05de22b5e09fd8bad4e3d802272f1a00775cf03bde9937aa0dcb90cb", func := "sawmill/sawmilllaw36.MoistThick", spec := "moistThick", named := ["math/bits.divideError", "math/bits.overflowError"], apart := false, narrowed := true }
def MoistThickUptoSaid : Prop := moistThickUptoRow.holds Try.pinned (OpenSpec.upto moistThickSpec)

/-- 'sawmilllaw36.MoistSums', WHERE WHAT IT READS IS OF BULK AT MOST 1048576: true; the input reads as it did. -/
def moistSumsUptoRow : OpenClaim := { program := "ytmnipfincjpofaa", sum := "fabf0d8e05de22b5e09fd8bad4e3d802272f1a00775cf03bde9937aa0dcb90cb", func := "sawmill/sawmilllaw36.MoistSums", spec := "moistSums", named := ["math/bits.divideError", "math/bits.overflowError"], apart := false, narrowed := true }
def MoistSumsUptoSaid : Prop := moistSumsUptoRow.holds Try.pinned (OpenSpec.upto moistSumsSpec)

end Rows
end Go.Proofs.Ytmnipfincjpofaa
