/-
  DERIVED. GIVEN WITH THE SEED: THE CARDS: each row of YtldekjlihfidlaaGreatDoorRows.lean that lists a variable, with what it lists TIED to the program's text (the seventh form; the later family's looks); each row that meets fmt, with fmt's text TOLD by the authors' own Lean function (tested against real Go, not proved from fmt's source: count such statements apart). THE CARD IS WHAT COUNTS. Prove the row's statement (the work); the ties are given (YtldekjlihfidlaaGreatDoorTie.lean); close each card by the builder's one call (the guide's Derived/Test/ToyasCard.lean, 'card_holds'). Laid BY PROGRAM, IN A SANDBOX (cutbox-door.mjs). By AI agents, Wed Nov 11 2026. No macro, syntax, notation, axiom, sorry.
-/
import Derived.Test.YtldekjlihfidlaaGreatDoorRows
import GoSem.ClaimSeven
namespace Go.Proofs.YtldekjlihfidlaaGreatDoor
namespace Rows

/-- THE TIED CARD OF 'sawmilllaw45.GradingOf'. -/
def gradingOfCard : Claim7 := { stood := { row := gradingOfRow, standIns := [], harness := (true, "8d303393c516ee1b90875d083a5ae919ea354e99a5eecf03b76917c563150be4"), looks := false }, kinds := [], alts := [], laidByText := true, laidKinds := [.data, .data, .data], laidTests := true, laidLooks := .later }
def GradingOfCardSaid : Prop := Claim7.holds Tryz.pinned (.plain (OpenSpec.ofChange gradingOfSpec)) gradingOfCard

/-- THE TIED CARD OF 'sawmilllaw45.GradingFirst'. -/
def gradingFirstCard : Claim7 := { stood := { row := gradingFirstRow, standIns := [], harness := (true, "8d303393c516ee1b90875d083a5ae919ea354e99a5eecf03b76917c563150be4"), looks := false }, kinds := [], alts := [], laidByText := true, laidKinds := [.data, .data, .data], laidTests := true, laidLooks := .later }
def GradingFirstCardSaid : Prop := Claim7.holds Tryz.pinned (.plain (OpenSpec.ofChange gradingFirstSpec)) gradingFirstCard

/-- THE TIED CARD OF 'sawmilllaw45.GradingAgain'. -/
def gradingAgainCard : Claim7 := { stood := { row := gradingAgainRow, standIns := [], harness := (true, "8d303393c516ee1b90875d083a5ae919ea354e99a5eecf03b76917c563150be4"), looks := false }, kinds := [], alts := [], laidByText := true, laidKinds := [.data, .data, .data], laidTests := true, laidLooks := .later }
def GradingAgainCardSaid : Prop := Claim7.holds Tryz.pinned (.plain (OpenSpec.ofChange gradingAgainSpec)) gradingAgainCard

/-- THE SECOND FORM's CARD OF 'sawmilllaw45.GradingOf'. -/
def gradingOfUptoCard : Claim7 := { stood := { row := gradingOfUptoRow, standIns := [], harness := (true, "8d303393c516ee1b90875d083a5ae919ea354e99a5eecf03b76917c563150be4"), looks := false }, kinds := [], alts := [], laidByText := true, laidKinds := [.data, .data, .data], laidTests := true, laidLooks := .later }
def GradingOfUptoCardSaid : Prop := Claim7.holds Tryz.pinned (.plain (OpenSpec.upto gradingOfSpec)) gradingOfUptoCard

/-- THE SECOND FORM's CARD OF 'sawmilllaw45.GradingFirst'. -/
def gradingFirstUptoCard : Claim7 := { stood := { row := gradingFirstUptoRow, standIns := [], harness := (true, "8d303393c516ee1b90875d083a5ae919ea354e99a5eecf03b76917c563150be4"), looks := false }, kinds := [], alts := [], laidByText := true, laidKinds := [.data, .data, .data], laidTests := true, laidLooks := .later }
def GradingFirstUptoCardSaid : Prop := Claim7.holds Tryz.pinned (.plain (OpenSpec.upto gradingFirstSpec)) gradingFirstUptoCard

/-- THE SECOND FORM's CARD OF 'sawmilllaw45.GradingAgain'. -/
def gradingAgainUptoCard : Claim7 := { stood := { row := gradingAgainUptoRow, standIns := [], harness := (true, "8d303393c516ee1b90875d083a5ae919ea354e99a5eecf03b76917c563150be4"), looks := false }, kinds := [], alts := [], laidByText := true, laidKinds := [.data, .data, .data], laidTests := true, laidLooks := .later }
def GradingAgainUptoCardSaid : Prop := Claim7.holds Tryz.pinned (.plain (OpenSpec.upto gradingAgainSpec)) gradingAgainUptoCard
end Rows
end Go.Proofs.YtldekjlihfidlaaGreatDoor
