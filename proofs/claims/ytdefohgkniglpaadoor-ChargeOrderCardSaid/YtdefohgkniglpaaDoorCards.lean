/-
  DERIVED. GIVEN WITH THE SEED: THE CARDS: each row of YtdefohgkniglpaaDoorRows.lean that lists a variable, with what it lists TIED to the program's text (the seventh form; the later family's looks); each row that meets fmt, with fmt's text TOLD by the authors' own Lean function (tested against real Go, not proved from fmt's source: count such statements apart). THE CARD IS WHAT COUNTS. Prove the row's statement (the work); the ties are given (YtdefohgkniglpaaDoorTie.lean); close each card by the builder's one call (the guide's Derived/Test/ToyasCard.lean, 'card_holds'). Laid BY PROGRAM, IN A SANDBOX (cutbox-door.mjs). By AI agents, Wed Nov 11 2026. No macro, syntax, notation, axiom, sorry.
-/
import Derived.Test.YtdefohgkniglpaaDoorRows
import GoSem.ClaimSeven
namespace Go.Proofs.YtdefohgkniglpaaDoor
namespace Rows

/-- THE TIED CARD OF 'sawmilllaw40.ChargeFaults'. -/
def chargeFaultsCard : Claim7 := { stood := { row := chargeFaultsRow, standIns := [], harness := (true, "1f265312b560ae279d90702e4ce78599bb5773603063bd70efc79fb984500e80"), looks := false }, kinds := [], alts := [], laidByText := true, laidKinds := [.data], laidTests := true, laidLooks := .later }
def ChargeFaultsCardSaid : Prop := Claim7.holds Tryd.pinned (.plain (OpenSpec.ofChange chargeFaultsSpec)) chargeFaultsCard

/-- THE TIED CARD OF 'sawmilllaw40.ChargeLimits'. -/
def chargeLimitsCard : Claim7 := { stood := { row := chargeLimitsRow, standIns := [], harness := (true, "1f265312b560ae279d90702e4ce78599bb5773603063bd70efc79fb984500e80"), looks := false }, kinds := [], alts := [], laidByText := true, laidKinds := [.data], laidTests := true, laidLooks := .later }
def ChargeLimitsCardSaid : Prop := Claim7.holds Tryd.pinned (.plain (OpenSpec.ofChange chargeLimitsSpec)) chargeLimitsCard

/-- THE TIED CARD OF 'sawmilllaw40.ChargeKeeps'. -/
def chargeKeepsCard : Claim7 := { stood := { row := chargeKeepsRow, standIns := [], harness := (true, "1f265312b560ae279d90702e4ce78599bb5773603063bd70efc79fb984500e80"), looks := false }, kinds := [], alts := [], laidByText := true, laidKinds := [.data], laidTests := true, laidLooks := .later }
def ChargeKeepsCardSaid : Prop := Claim7.holds Tryd.pinned (.plain (OpenSpec.ofChange chargeKeepsSpec)) chargeKeepsCard

/-- THE TIED CARD OF 'sawmilllaw40.ChargeShorter'. -/
def chargeShorterCard : Claim7 := { stood := { row := chargeShorterRow, standIns := [], harness := (true, "1f265312b560ae279d90702e4ce78599bb5773603063bd70efc79fb984500e80"), looks := false }, kinds := [], alts := [], laidByText := true, laidKinds := [.data], laidTests := true, laidLooks := .later }
def ChargeShorterCardSaid : Prop := Claim7.holds Tryd.pinned (.plain (OpenSpec.ofChange chargeShorterSpec)) chargeShorterCard

/-- THE TIED CARD OF 'sawmilllaw40.ChargeFans'. -/
def chargeFansCard : Claim7 := { stood := { row := chargeFansRow, standIns := [], harness := (true, "1f265312b560ae279d90702e4ce78599bb5773603063bd70efc79fb984500e80"), looks := false }, kinds := [], alts := [], laidByText := true, laidKinds := [.data], laidTests := true, laidLooks := .later }
def ChargeFansCardSaid : Prop := Claim7.holds Tryd.pinned (.plain (OpenSpec.ofChange chargeFansSpec)) chargeFansCard

/-- THE TIED CARD OF 'sawmilllaw40.ChargeOrder'. -/
def chargeOrderCard : Claim7 := { stood := { row := chargeOrderRow, standIns := [], harness := (true, "1f265312b560ae279d90702e4ce78599bb5773603063bd70efc79fb984500e80"), looks := false }, kinds := [], alts := [], laidByText := true, laidKinds := [.data], laidTests := true, laidLooks := .later }
def ChargeOrderCardSaid : Prop := Claim7.holds Tryd.pinned (.plain (OpenSpec.ofChange chargeOrderSpec)) chargeOrderCard

/-- THE SECOND FORM's CARD OF 'sawmilllaw40.ChargeFaults'. -/
def chargeFaultsUptoCard : Claim7 := { stood := { row := chargeFaultsUptoRow, standIns := [], harness := (true, "1f265312b560ae279d90702e4ce78599bb5773603063bd70efc79fb984500e80"), looks := false }, kinds := [], alts := [], laidByText := true, laidKinds := [.data], laidTests := true, laidLooks := .later }
def ChargeFaultsUptoCardSaid : Prop := Claim7.holds Tryd.pinned (.plain (OpenSpec.upto chargeFaultsSpec)) chargeFaultsUptoCard

/-- THE SECOND FORM's CARD OF 'sawmilllaw40.ChargeLimits'. -/
def chargeLimitsUptoCard : Claim7 := { stood := { row := chargeLimitsUptoRow, standIns := [], harness := (true, "1f265312b560ae279d90702e4ce78599bb5773603063bd70efc79fb984500e80"), looks := false }, kinds := [], alts := [], laidByText := true, laidKinds := [.data], laidTests := true, laidLooks := .later }
def ChargeLimitsUptoCardSaid : Prop := Claim7.holds Tryd.pinned (.plain (OpenSpec.upto chargeLimitsSpec)) chargeLimitsUptoCard

/-- THE SECOND FORM's CARD OF 'sawmilllaw40.ChargeKeeps'. -/
def chargeKeepsUptoCard : Claim7 := { stood := { row := chargeKeepsUptoRow, standIns := [], harness := (true, "1f265312b560ae279d90702e4ce78599bb5773603063bd70efc79fb984500e80"), looks := false }, kinds := [], alts := [], laidByText := true, laidKinds := [.data], laidTests := true, laidLooks := .later }
def ChargeKeepsUptoCardSaid : Prop := Claim7.holds Tryd.pinned (.plain (OpenSpec.upto chargeKeepsSpec)) chargeKeepsUptoCard

/-- THE SECOND FORM's CARD OF 'sawmilllaw40.ChargeShorter'. -/
def chargeShorterUptoCard : Claim7 := { stood := { row := chargeShorterUptoRow, standIns := [], harness := (true, "1f265312b560ae279d90702e4ce78599bb5773603063bd70efc79fb984500e80"), looks := false }, kinds := [], alts := [], laidByText := true, laidKinds := [.data], laidTests := true, laidLooks := .later }
def ChargeShorterUptoCardSaid : Prop := Claim7.holds Tryd.pinned (.plain (OpenSpec.upto chargeShorterSpec)) chargeShorterUptoCard

/-- THE SECOND FORM's CARD OF 'sawmilllaw40.ChargeFans'. -/
def chargeFansUptoCard : Claim7 := { stood := { row := chargeFansUptoRow, standIns := [], harness := (true, "1f265312b560ae279d90702e4ce78599bb5773603063bd70efc79fb984500e80"), looks := false }, kinds := [], alts := [], laidByText := true, laidKinds := [.data], laidTests := true, laidLooks := .later }
def ChargeFansUptoCardSaid : Prop := Claim7.holds Tryd.pinned (.plain (OpenSpec.upto chargeFansSpec)) chargeFansUptoCard

/-- THE SECOND FORM's CARD OF 'sawmilllaw40.ChargeOrder'. -/
def chargeOrderUptoCard : Claim7 := { stood := { row := chargeOrderUptoRow, standIns := [], harness := (true, "1f265312b560ae279d90702e4ce78599bb5773603063bd70efc79fb984500e80"), looks := false }, kinds := [], alts := [], laidByText := true, laidKinds := [.data], laidTests := true, laidLooks := .later }
def ChargeOrderUptoCardSaid : Prop := Claim7.holds Tryd.pinned (.plain (OpenSpec.upto chargeOrderSpec)) chargeOrderUptoCard
end Rows
end Go.Proofs.YtdefohgkniglpaaDoor
