/-
  No cell of these rows narrows 'for every input' (looked for: loops, veiled, ifaces, maps, wideKeys, modest, calm, conditions, laid).
  DERIVED. THE GIVEN ROWS OF THIS SEAT. 3 by the template 'for every input the law returns true; each argument reads behind the call as it read before'; 0 by the template 'total and deterministic' (their statements: YtkcjffiflelocaaTotals.lean).
  GIVEN WITH THE SEED: the statements are not yours to turn. If you find one false, say at which input.
  Laid BY PROGRAM, IN A SANDBOX (cutbox-rows.mjs): the forced cells as the released guide's own fill.sh prints them over the translation 548910bdeb3aa0ab… (all of the seat's roots in one cut). By AI agents, Wed Nov 11 2026. No macro, syntax, notation, axiom, sorry.
-/
import Derived.Test.YtkcjffiflelocaaChecked
import GoSem.Claim
import GoSem.ClaimJoined
import GoSem.ClaimMapViews
import Derived.JoinedTies
import Derived.KernelRfl
namespace Go.Proofs.Ytkcjffiflelocaa
/- THE CELL 'sum', in the pinned program and in every row, IS THE sha256 OF THE DUMP (.gsa) THAT YtkcjffiflelocaaProg.lean LOADS. Nothing in Lean hashes anything: it is a label: what it is worth is what the hold of that sum in a sandbox is worth. -/
noncomputable def Try.pinned : Pinned := { name := "ytkcjffiflelocaa", sum := "548910bdeb3aa0ab130071c3f327f5f2dae0d13de01ac5692aadd9161124a1a7", checked := Try.checked }
namespace Rows
def none {H : Type} : Left H := { results := [], args := [] }

/-- 'sawmilllaw52.BooksCuts': WHATEVER THE INPUT: true; the input reads as it did. -/
def booksCutsSpec : ChangeSpec := { name := "booksCuts", fn := fun _ => fun
  | [d1, d2] => { results := [.lit (.bool true)], args := [d1, d2] }
  | _ => none }
def booksCutsRow : OpenClaim := { program := "ytkcjffiflelocaa", sum := "548910bdeb3aa0ab130071c3f327f5f2dae0d13de01ac5692aadd9161124a1a7", func := "sawmill/sawmilllaw52.BooksCuts", spec := "booksCuts", apart := false }
def BooksCutsSaid : Prop := booksCutsRow.holds Try.pinned (OpenSpec.ofChange booksCutsSpec)

/-- ITS FALSE NEIGHBOUR: 'it returns false'. Refute it at one input. -/
def booksCutsWrong : ChangeSpec := { name := "booksCuts", fn := fun _ => fun
  | [d1, d2] => { results := [.lit (.bool false)], args := [d1, d2] }
  | _ => none }
def BooksCutsWrongFalsely : Prop := booksCutsRow.holds Try.pinned (OpenSpec.ofChange booksCutsWrong)

/-- 'sawmilllaw52.BooksMoves': WHATEVER THE INPUT: true; the input reads as it did. -/
def booksMovesSpec : ChangeSpec := { name := "booksMoves", fn := fun _ => fun
  | [d] => { results := [.lit (.bool true)], args := [d] }
  | _ => none }
def booksMovesRow : OpenClaim := { program := "ytkcjffiflelocaa", sum := "548910bdeb3aa0ab130071c3f327f5f2dae0d13de01ac5692aadd9161124a1a7", func := "sawmill/sawmilllaw52.BooksMoves", spec := "booksMoves", apart := false }
def BooksMovesSaid : Prop := booksMovesRow.holds Try.pinned (OpenSpec.ofChange booksMovesSpec)

/-- ITS FALSE NEIGHBOUR: 'it returns false'. Refute it at one input. -/
def booksMovesWrong : ChangeSpec := { name := "booksMoves", fn := fun _ => fun
  | [d] => { results := [.lit (.bool false)], args := [d] }
  | _ => none }
def BooksMovesWrongFalsely : Prop := booksMovesRow.holds Try.pinned (OpenSpec.ofChange booksMovesWrong)

/-- 'sawmilllaw52.BooksSums': WHATEVER THE INPUT: true; the input reads as it did. -/
def booksSumsSpec : ChangeSpec := { name := "booksSums", fn := fun _ => fun
  | [d1, d2] => { results := [.lit (.bool true)], args := [d1, d2] }
  | _ => none }
def booksSumsRow : OpenClaim := { program := "ytkcjffiflelocaa", sum := "548910bdeb3aa0ab130071c3f327f5f2dae0d13de01ac5692aadd9161124a1a7", func := "sawmill/sawmilllaw52.BooksSums", spec := "booksSums", apart := false }
def BooksSumsSaid : Prop := booksSumsRow.holds Try.pinned (OpenSpec.ofChange booksSumsSpec)

/-- ITS FALSE NEIGHBOUR: 'it returns false'. Refute it at one input. -/
def booksSumsWrong : ChangeSpec := { name := "booksSums", fn := fun _ => fun
  | [d1, d2] => { results := [.lit (.bool false)], args := [d1, d2] }
  | _ => none }
def BooksSumsWrongFalsely : Prop := booksSumsRow.holds Try.pinned (OpenSpec.ofChange booksSumsWrong)

/- THE SECOND FORM. 'bulk': how many values and letters a reading holds, each counted each time it is reached (what is shared counts as often as it is met; a slice's spare places count too). A statement '..UptoSaid' is the law's where the arguments, and the package variables that the reading takes, are together of bulk at most 1048576: NARROWER than '..Said'. Prove '..Said' where nothing that the law and all that it calls make is longer than what came in: it says more and counts as full. Else prove '..UptoSaid'. A law counts once. -/
mutual
def uptoBulk {H : Type} : DataW H → Nat
  | .lit (.string bytes) => bytes.length + 1
  | .lit _ => 1
  | .nil => 1
  | .ptr d => uptoBulk d + 1
  | .slice elems spare => uptoBulkAll elems + uptoBulkAll spare + 1
  | .agg parts => uptoBulkAll parts + 1
  | .iface _ d => uptoBulk d + 1
  | .map entries => uptoBulkEntries entries + 1
  | .held _ => 1
def uptoBulkAll {H : Type} : List (DataW H) → Nat
  | [] => 0
  | d :: r => uptoBulk d + uptoBulkAll r
def uptoBulkEntries {H : Type} : List (Lit × DataW H) → Nat
  | [] => 0
  | x :: r => uptoBulkEntry x + uptoBulkEntries r
def uptoBulkEntry {H : Type} : Lit × DataW H → Nat
  | (.string bytes, d) => bytes.length + uptoBulk d + 1
  | (_, d) => uptoBulk d + 1
 end
def uptoSmall : (H : Type) → List (DataW H) → Bool := fun _ ds => decide (uptoBulkAll ds ≤ 1048576)
def OpenSpec.upto (s : _root_.Go.ChangeSpec) : _root_.Go.OpenSpec := { _root_.Go.OpenSpec.ofChange s with cond := some uptoSmall }

/-- 'sawmilllaw52.BooksCuts', WHERE WHAT IT READS IS OF BULK AT MOST 1048576: true; the input reads as it did. -/
def booksCutsUptoRow : OpenClaim := { program := "ytkcjffiflelocaa", sum := "548910bdeb3aa0ab130071c3f327f5f2dae0d13de01ac5692aadd9161124a1a7", func := "sawmill/sawmilllaw52.BooksCuts", spec := "booksCuts", apart := false, narrowed := true }
def BooksCutsUptoSaid : Prop := booksCutsUptoRow.holds Try.pinned (OpenSpec.upto booksCutsSpec)

/-- 'sawmilllaw52.BooksMoves', WHERE WHAT IT READS IS OF BULK AT MOST 1048576: true; the input reads as it did. -/
def booksMovesUptoRow : OpenClaim := { program := "ytkcjffiflelocaa", sum := "548910bdeb3aa0ab130071c3f327f5f2dae0d13de01ac5692aadd9161124a1a7", func := "sawmill/sawmilllaw52.BooksMoves", spec := "booksMoves", apart := false, narrowed := true }
def BooksMovesUptoSaid : Prop := booksMovesUptoRow.holds Try.pinned (OpenSpec.upto booksMovesSpec)

/-- 'sawmilllaw52.BooksSums', WHERE WHAT IT READS IS OF BULK AT MOST 1048576: true; the input reads as it did. -/
def booksSumsUptoRow : OpenClaim := { program := "ytkcjffiflelocaa", sum := "548910bdeb3aa0ab130071c3f327f5f2dae0d13de01ac5692aadd9161124a1a7", func := "sawmill/sawmilllaw52.BooksSums", spec := "booksSums", apart := false, narrowed := true }
def BooksSumsUptoSaid : Prop := booksSumsUptoRow.holds Try.pinned (OpenSpec.upto booksSumsSpec)

end Rows
end Go.Proofs.Ytkcjffiflelocaa
