/-
  DERIVED. GIVEN WITH THE SEED: THE CARDS: each row of YtdefohgkniglpaaGreatDoorRows.lean that lists a variable, with what it lists TIED to the program's text (the seventh form; the later family's looks); each row that meets fmt, with fmt's text TOLD by the authors' own Lean function (tested against real Go, not proved from fmt's source: count such statements apart). THE CARD IS WHAT COUNTS. Prove the row's statement (the work); the ties are given (YtdefohgkniglpaaGreatDoorTie.lean); close each card by the builder's one call (the guide's Derived/Test/ToyasCard.lean, 'card_holds'). Laid BY PROGRAM, IN A SANDBOX (cutbox-door.mjs). By AI agents, Wed Nov 11 2026. No macro, syntax, notation, axiom, sorry.
-/
import Derived.Test.YtdefohgkniglpaaGreatDoorRows
import GoSem.ClaimSeven
namespace Go.Proofs.YtdefohgkniglpaaGreatDoor
namespace Rows

/-- THE TIED CARD OF 'sawmilllaw40.ChargeChecks'. -/
def chargeChecksCard : Claim7 := { stood := { row := chargeChecksRow, standIns := [], harness := (true, "d0ab229608141778d8c114aba6ef8a973e69bb2f0ede335e85522297487bb3ce"), looks := false }, kinds := [], alts := [], laidByText := true, laidKinds := [.data], laidTests := true, laidLooks := .later }
def ChargeChecksCardSaid : Prop := Claim7.holds Tryz.pinned (.plain (OpenSpec.ofChange chargeChecksSpec)) chargeChecksCard

/-- THE TIED CARD OF 'sawmilllaw40.ChargeDries'. -/
def chargeDriesCard : Claim7 := { stood := { row := chargeDriesRow, standIns := [], harness := (true, "d0ab229608141778d8c114aba6ef8a973e69bb2f0ede335e85522297487bb3ce"), looks := false }, kinds := [], alts := [], laidByText := true, laidKinds := [.data], laidTests := true, laidLooks := .later }
def ChargeDriesCardSaid : Prop := Claim7.holds Tryz.pinned (.plain (OpenSpec.ofChange chargeDriesSpec)) chargeDriesCard

/-- THE SECOND FORM's CARD OF 'sawmilllaw40.ChargeChecks'. -/
def chargeChecksUptoCard : Claim7 := { stood := { row := chargeChecksUptoRow, standIns := [], harness := (true, "d0ab229608141778d8c114aba6ef8a973e69bb2f0ede335e85522297487bb3ce"), looks := false }, kinds := [], alts := [], laidByText := true, laidKinds := [.data], laidTests := true, laidLooks := .later }
def ChargeChecksUptoCardSaid : Prop := Claim7.holds Tryz.pinned (.plain (OpenSpec.upto chargeChecksSpec)) chargeChecksUptoCard

/-- THE SECOND FORM's CARD OF 'sawmilllaw40.ChargeDries'. -/
def chargeDriesUptoCard : Claim7 := { stood := { row := chargeDriesUptoRow, standIns := [], harness := (true, "d0ab229608141778d8c114aba6ef8a973e69bb2f0ede335e85522297487bb3ce"), looks := false }, kinds := [], alts := [], laidByText := true, laidKinds := [.data], laidTests := true, laidLooks := .later }
def ChargeDriesUptoCardSaid : Prop := Claim7.holds Tryz.pinned (.plain (OpenSpec.upto chargeDriesSpec)) chargeDriesUptoCard
end Rows
end Go.Proofs.YtdefohgkniglpaaGreatDoor
