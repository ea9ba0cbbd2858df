/-
  DERIVED. GIVEN WITH THE SEED: THE CARDS: each row of YthgamgdcjgbmnaaDoorRows.lean that lists a variable, with what it lists TIED to the program's text (the seventh form; the later family's looks); each row that meets fmt, with fmt's text TOLD by the authors' own Lean function (tested against real Go, not proved from fmt's source: count such statements apart). THE CARD IS WHAT COUNTS. Prove the row's statement (the work); the ties are given (YthgamgdcjgbmnaaDoorTie.lean); close each card by the builder's one call (the guide's Derived/Test/ToyasCard.lean, 'card_holds'). Laid BY PROGRAM, IN A SANDBOX (cutbox-door.mjs). By AI agents, Wed Nov 11 2026. No macro, syntax, notation, axiom, sorry.
-/
import Derived.Test.YthgamgdcjgbmnaaDoorRows
import GoSem.ClaimSeven
namespace Go.Proofs.YthgamgdcjgbmnaaDoor
namespace Rows

/-- THE TIED CARD OF 'sawmilllaw38.KilnBegins'. -/
def kilnBeginsCard : Claim7 := { stood := { row := kilnBeginsRow, standIns := [], harness := (true, "9eaffc5cc21f678d548be8536823ffa55f5dc18f4e1252b547511c5de4fb1401"), looks := false }, kinds := [], alts := [], laidByText := true, laidKinds := [.data], laidTests := true, laidLooks := .later }
def KilnBeginsCardSaid : Prop := Claim7.holds Tryd.pinned (.plain (OpenSpec.ofChange kilnBeginsSpec)) kilnBeginsCard

/-- THE TIED CARD OF 'sawmilllaw38.KilnLimits'. -/
def kilnLimitsCard : Claim7 := { stood := { row := kilnLimitsRow, standIns := [], harness := (true, "9eaffc5cc21f678d548be8536823ffa55f5dc18f4e1252b547511c5de4fb1401"), looks := false }, kinds := [], alts := [], laidByText := true, laidKinds := [.data], laidTests := true, laidLooks := .later }
def KilnLimitsCardSaid : Prop := Claim7.holds Tryd.pinned (.plain (OpenSpec.ofChange kilnLimitsSpec)) kilnLimitsCard

/-- THE TIED CARD OF 'sawmilllaw38.KilnCounts'. -/
def kilnCountsCard : Claim7 := { stood := { row := kilnCountsRow, standIns := [], harness := (true, "9eaffc5cc21f678d548be8536823ffa55f5dc18f4e1252b547511c5de4fb1401"), looks := false }, kinds := [], alts := [], laidByText := true, laidKinds := [.data], laidTests := true, laidLooks := .later }
def KilnCountsCardSaid : Prop := Claim7.holds Tryd.pinned (.plain (OpenSpec.ofChange kilnCountsSpec)) kilnCountsCard

/-- THE TIED CARD OF 'sawmilllaw38.KilnAlone'. -/
def kilnAloneCard : Claim7 := { stood := { row := kilnAloneRow, standIns := [], harness := (true, "9eaffc5cc21f678d548be8536823ffa55f5dc18f4e1252b547511c5de4fb1401"), looks := false }, kinds := [], alts := [], laidByText := true, laidKinds := [.data], laidTests := true, laidLooks := .later }
def KilnAloneCardSaid : Prop := Claim7.holds Tryd.pinned (.plain (OpenSpec.ofChange kilnAloneSpec)) kilnAloneCard

/-- THE TIED CARD OF 'sawmilllaw38.KilnNone'. -/
def kilnNoneCard : Claim7 := { stood := { row := kilnNoneRow, standIns := [], harness := (true, "9eaffc5cc21f678d548be8536823ffa55f5dc18f4e1252b547511c5de4fb1401"), looks := false }, kinds := [], alts := [], laidByText := true, laidKinds := [.data], laidTests := true, laidLooks := .later }
def KilnNoneCardSaid : Prop := Claim7.holds Tryd.pinned (.plain (OpenSpec.ofChange kilnNoneSpec)) kilnNoneCard

/-- THE SECOND FORM's CARD OF 'sawmilllaw38.KilnBegins'. -/
def kilnBeginsUptoCard : Claim7 := { stood := { row := kilnBeginsUptoRow, standIns := [], harness := (true, "9eaffc5cc21f678d548be8536823ffa55f5dc18f4e1252b547511c5de4fb1401"), looks := false }, kinds := [], alts := [], laidByText := true, laidKinds := [.data], laidTests := true, laidLooks := .later }
def KilnBeginsUptoCardSaid : Prop := Claim7.holds Tryd.pinned (.plain (OpenSpec.upto kilnBeginsSpec)) kilnBeginsUptoCard

/-- THE SECOND FORM's CARD OF 'sawmilllaw38.KilnLimits'. -/
def kilnLimitsUptoCard : Claim7 := { stood := { row := kilnLimitsUptoRow, standIns := [], harness := (true, "9eaffc5cc21f678d548be8536823ffa55f5dc18f4e1252b547511c5de4fb1401"), looks := false }, kinds := [], alts := [], laidByText := true, laidKinds := [.data], laidTests := true, laidLooks := .later }
def KilnLimitsUptoCardSaid : Prop := Claim7.holds Tryd.pinned (.plain (OpenSpec.upto kilnLimitsSpec)) kilnLimitsUptoCard

/-- THE SECOND FORM's CARD OF 'sawmilllaw38.KilnCounts'. -/
def kilnCountsUptoCard : Claim7 := { stood := { row := kilnCountsUptoRow, standIns := [], harness := (true, "9eaffc5cc21f678d548be8536823ffa55f5dc18f4e1252b547511c5de4fb1401"), looks := false }, kinds := [], alts := [], laidByText := true, laidKinds := [.data], laidTests := true, laidLooks := .later }
def KilnCountsUptoCardSaid : Prop := Claim7.holds Tryd.pinned (.plain (OpenSpec.upto kilnCountsSpec)) kilnCountsUptoCard

/-- THE SECOND FORM's CARD OF 'sawmilllaw38.KilnAlone'. -/
def kilnAloneUptoCard : Claim7 := { stood := { row := kilnAloneUptoRow, standIns := [], harness := (true, "9eaffc5cc21f678d548be8536823ffa55f5dc18f4e1252b547511c5de4fb1401"), looks := false }, kinds := [], alts := [], laidByText := true, laidKinds := [.data], laidTests := true, laidLooks := .later }
def KilnAloneUptoCardSaid : Prop := Claim7.holds Tryd.pinned (.plain (OpenSpec.upto kilnAloneSpec)) kilnAloneUptoCard

/-- THE SECOND FORM's CARD OF 'sawmilllaw38.KilnNone'. -/
def kilnNoneUptoCard : Claim7 := { stood := { row := kilnNoneUptoRow, standIns := [], harness := (true, "9eaffc5cc21f678d548be8536823ffa55f5dc18f4e1252b547511c5de4fb1401"), looks := false }, kinds := [], alts := [], laidByText := true, laidKinds := [.data], laidTests := true, laidLooks := .later }
def KilnNoneUptoCardSaid : Prop := Claim7.holds Tryd.pinned (.plain (OpenSpec.upto kilnNoneSpec)) kilnNoneUptoCard
end Rows
end Go.Proofs.YthgamgdcjgbmnaaDoor
