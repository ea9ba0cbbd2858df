/-
  DERIVED. GIVEN WITH THE SEED: THE CARDS: each row of YtbdgblipbpadeaaGreatDoorRows.lean that lists a variable, with what it lists TIED to the program's text (the seventh form; the later family's looks); each row that meets fmt, with fmt's text TOLD by the authors' own Lean function (tested against real Go, not proved from fmt's source: count such statements apart). THE CARD IS WHAT COUNTS. Prove the row's statement (the work); the ties are given (YtbdgblipbpadeaaGreatDoorTie.lean); close each card by the builder's one call (the guide's Derived/Test/ToyasCard.lean, 'card_holds'). Laid BY PROGRAM, IN A SANDBOX (cutbox-door.mjs). By AI agents, Wed Nov 11 2026. No macro, syntax, notation, axiom, sorry.
-/
import Derived.Test.YtbdgblipbpadeaaGreatDoorRows
import GoSem.ClaimSeven
namespace Go.Proofs.YtbdgblipbpadeaaGreatDoor
namespace Rows

/-- THE TIED CARD OF 'sawmilltop.TopLocal'. -/
def topLocalCard : Claim7 := { stood := { row := topLocalRow, standIns := [], harness := (true, "c487e2e5f9b3181daa0fe027d6f2577a6e316769654e704e4f3c58e06a040769"), looks := false }, kinds := [], alts := [], laidByText := true, laidKinds := [.data, .data, .data], laidTests := true, laidLooks := .later }
def TopLocalCardSaid : Prop := Claim7.holds Tryz.pinned (.plain (OpenSpec.ofChange topLocalSpec)) topLocalCard

/-- THE SECOND FORM's CARD OF 'sawmilltop.TopLocal'. -/
def topLocalUptoCard : Claim7 := { stood := { row := topLocalUptoRow, standIns := [], harness := (true, "c487e2e5f9b3181daa0fe027d6f2577a6e316769654e704e4f3c58e06a040769"), looks := false }, kinds := [], alts := [], laidByText := true, laidKinds := [.data, .data, .data], laidTests := true, laidLooks := .later }
def TopLocalUptoCardSaid : Prop := Claim7.holds Tryz.pinned (.plain (OpenSpec.upto topLocalSpec)) topLocalUptoCard
end Rows
end Go.Proofs.YtbdgblipbpadeaaGreatDoor
