/-
  DERIVED. GIVEN WITH THE SEED: THE CARDS: each row of YthgamgdcjgbmnaaGreatDoorRows.lean that lists a variable, with what it lists TIED to the program's text (the seventh form; the later family's looks); each row that meets fmt, with fmt's text TOLD by the authors' own Lean function (tested against real Go, not proved from fmt's source: count such statements apart). THE CARD IS WHAT COUNTS. Prove the row's statement (the work); the ties are given (YthgamgdcjgbmnaaGreatDoorTie.lean); close each card by the builder's one call (the guide's Derived/Test/ToyasCard.lean, 'card_holds'). Laid BY PROGRAM, IN A SANDBOX (cutbox-door.mjs). By AI agents, Wed Nov 11 2026. No macro, syntax, notation, axiom, sorry.
-/
import Derived.Test.YthgamgdcjgbmnaaGreatDoorRows
import GoSem.ClaimSeven
namespace Go.Proofs.YthgamgdcjgbmnaaGreatDoor
namespace Rows

/-- THE TIED CARD OF 'sawmilllaw38.KilnTicks'. -/
def kilnTicksCard : Claim7 := { stood := { row := kilnTicksRow, standIns := [], harness := (true, "e8e8a2d24cf23dfc3740c5a2afdd5708915a4680886931edd31cc50a26ebfa7a"), looks := false }, kinds := [], alts := [], laidByText := true, laidKinds := [.data], laidTests := true, laidLooks := .later }
def KilnTicksCardSaid : Prop := Claim7.holds Tryz.pinned (.plain (OpenSpec.ofChange kilnTicksSpec)) kilnTicksCard

/-- THE SECOND FORM's CARD OF 'sawmilllaw38.KilnTicks'. -/
def kilnTicksUptoCard : Claim7 := { stood := { row := kilnTicksUptoRow, standIns := [], harness := (true, "e8e8a2d24cf23dfc3740c5a2afdd5708915a4680886931edd31cc50a26ebfa7a"), looks := false }, kinds := [], alts := [], laidByText := true, laidKinds := [.data], laidTests := true, laidLooks := .later }
def KilnTicksUptoCardSaid : Prop := Claim7.holds Tryz.pinned (.plain (OpenSpec.upto kilnTicksSpec)) kilnTicksUptoCard
end Rows
end Go.Proofs.YthgamgdcjgbmnaaGreatDoor
