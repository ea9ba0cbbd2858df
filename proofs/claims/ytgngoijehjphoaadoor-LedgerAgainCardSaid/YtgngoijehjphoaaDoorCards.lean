/-
  DERIVED. GIVEN WITH THE SEED: THE CARDS: each row of YtgngoijehjphoaaDoorRows.lean that lists a variable, with what it lists TIED to the program's text (the seventh form; the later family's looks); each row that meets fmt, with fmt's text TOLD by the authors' own Lean function (tested against real Go, not proved from fmt's source: count such statements apart). THE CARD IS WHAT COUNTS. Prove the row's statement (the work); the ties are given (YtgngoijehjphoaaDoorTie.lean); close each card by the builder's one call (the guide's Derived/Test/ToyasCard.lean, 'card_holds'). Laid BY PROGRAM, IN A SANDBOX (cutbox-door.mjs). By AI agents, Wed Nov 11 2026. No macro, syntax, notation, axiom, sorry.
-/
import Derived.Test.YtgngoijehjphoaaDoorRows
import GoSem.ClaimSeven
namespace Go.Proofs.YtgngoijehjphoaaDoor
namespace Rows

/-- THE TIED CARD OF 'sawmilllaw51.LedgerMakes'. -/
def ledgerMakesCard : Claim7 := { stood := { row := ledgerMakesRow, standIns := [], harness := (true, "ab3d53097ea158e58c8d3cef20bf4bd669087ffd0f29ff87189d9bb6aae2af9a"), looks := false }, kinds := [], alts := [], laidByText := true, laidKinds := [.data, .data, .data], laidTests := true, laidLooks := .later }
def LedgerMakesCardSaid : Prop := Claim7.holds Tryd.pinned (.plain (OpenSpec.ofChange ledgerMakesSpec)) ledgerMakesCard

/-- THE TIED CARD OF 'sawmilllaw51.LedgerPosts'. -/
def ledgerPostsCard : Claim7 := { stood := { row := ledgerPostsRow, standIns := [], harness := (true, "ab3d53097ea158e58c8d3cef20bf4bd669087ffd0f29ff87189d9bb6aae2af9a"), looks := false }, kinds := [], alts := [], laidByText := true, laidKinds := [.data, .data, .data], laidTests := true, laidLooks := .later }
def LedgerPostsCardSaid : Prop := Claim7.holds Tryd.pinned (.plain (OpenSpec.ofChange ledgerPostsSpec)) ledgerPostsCard

/-- THE TIED CARD OF 'sawmilllaw51.LedgerZero'. -/
def ledgerZeroCard : Claim7 := { stood := { row := ledgerZeroRow, standIns := [], harness := (true, "ab3d53097ea158e58c8d3cef20bf4bd669087ffd0f29ff87189d9bb6aae2af9a"), looks := false }, kinds := [], alts := [], laidByText := true, laidKinds := [.data, .data, .data], laidTests := true, laidLooks := .later }
def LedgerZeroCardSaid : Prop := Claim7.holds Tryd.pinned (.plain (OpenSpec.ofChange ledgerZeroSpec)) ledgerZeroCard

/-- THE TIED CARD OF 'sawmilllaw51.LedgerRefuses'. -/
def ledgerRefusesCard : Claim7 := { stood := { row := ledgerRefusesRow, standIns := [], harness := (true, "ab3d53097ea158e58c8d3cef20bf4bd669087ffd0f29ff87189d9bb6aae2af9a"), looks := false }, kinds := [], alts := [], laidByText := true, laidKinds := [.data, .data, .data], laidTests := true, laidLooks := .later }
def LedgerRefusesCardSaid : Prop := Claim7.holds Tryd.pinned (.plain (OpenSpec.ofChange ledgerRefusesSpec)) ledgerRefusesCard

/-- THE TIED CARD OF 'sawmilllaw51.LedgerAgain'. -/
def ledgerAgainCard : Claim7 := { stood := { row := ledgerAgainRow, standIns := [], harness := (true, "ab3d53097ea158e58c8d3cef20bf4bd669087ffd0f29ff87189d9bb6aae2af9a"), looks := false }, kinds := [], alts := [], laidByText := true, laidKinds := [.data, .data, .data], laidTests := true, laidLooks := .later }
def LedgerAgainCardSaid : Prop := Claim7.holds Tryd.pinned (.plain (OpenSpec.ofChange ledgerAgainSpec)) ledgerAgainCard

/-- THE TIED CARD OF 'sawmilllaw51.LedgerNone'. -/
def ledgerNoneCard : Claim7 := { stood := { row := ledgerNoneRow, standIns := [], harness := (true, "ab3d53097ea158e58c8d3cef20bf4bd669087ffd0f29ff87189d9bb6aae2af9a"), looks := false }, kinds := [], alts := [], laidByText := true, laidKinds := [.data, .data, .data], laidTests := true, laidLooks := .later }
def LedgerNoneCardSaid : Prop := Claim7.holds Tryd.pinned (.plain (OpenSpec.ofChange ledgerNoneSpec)) ledgerNoneCard

/-- THE SECOND FORM's CARD OF 'sawmilllaw51.LedgerMakes'. -/
def ledgerMakesUptoCard : Claim7 := { stood := { row := ledgerMakesUptoRow, standIns := [], harness := (true, "ab3d53097ea158e58c8d3cef20bf4bd669087ffd0f29ff87189d9bb6aae2af9a"), looks := false }, kinds := [], alts := [], laidByText := true, laidKinds := [.data, .data, .data], laidTests := true, laidLooks := .later }
def LedgerMakesUptoCardSaid : Prop := Claim7.holds Tryd.pinned (.plain (OpenSpec.upto ledgerMakesSpec)) ledgerMakesUptoCard

/-- THE SECOND FORM's CARD OF 'sawmilllaw51.LedgerPosts'. -/
def ledgerPostsUptoCard : Claim7 := { stood := { row := ledgerPostsUptoRow, standIns := [], harness := (true, "ab3d53097ea158e58c8d3cef20bf4bd669087ffd0f29ff87189d9bb6aae2af9a"), looks := false }, kinds := [], alts := [], laidByText := true, laidKinds := [.data, .data, .data], laidTests := true, laidLooks := .later }
def LedgerPostsUptoCardSaid : Prop := Claim7.holds Tryd.pinned (.plain (OpenSpec.upto ledgerPostsSpec)) ledgerPostsUptoCard

/-- THE SECOND FORM's CARD OF 'sawmilllaw51.LedgerZero'. -/
def ledgerZeroUptoCard : Claim7 := { stood := { row := ledgerZeroUptoRow, standIns := [], harness := (true, "ab3d53097ea158e58c8d3cef20bf4bd669087ffd0f29ff87189d9bb6aae2af9a"), looks := false }, kinds := [], alts := [], laidByText := true, laidKinds := [.data, .data, .data], laidTests := true, laidLooks := .later }
def LedgerZeroUptoCardSaid : Prop := Claim7.holds Tryd.pinned (.plain (OpenSpec.upto ledgerZeroSpec)) ledgerZeroUptoCard

/-- THE SECOND FORM's CARD OF 'sawmilllaw51.LedgerRefuses'. -/
def ledgerRefusesUptoCard : Claim7 := { stood := { row := ledgerRefusesUptoRow, standIns := [], harness := (true, "ab3d53097ea158e58c8d3cef20bf4bd669087ffd0f29ff87189d9bb6aae2af9a"), looks := false }, kinds := [], alts := [], laidByText := true, laidKinds := [.data, .data, .data], laidTests := true, laidLooks := .later }
def LedgerRefusesUptoCardSaid : Prop := Claim7.holds Tryd.pinned (.plain (OpenSpec.upto ledgerRefusesSpec)) ledgerRefusesUptoCard

/-- THE SECOND FORM's CARD OF 'sawmilllaw51.LedgerAgain'. -/
def ledgerAgainUptoCard : Claim7 := { stood := { row := ledgerAgainUptoRow, standIns := [], harness := (true, "ab3d53097ea158e58c8d3cef20bf4bd669087ffd0f29ff87189d9bb6aae2af9a"), looks := false }, kinds := [], alts := [], laidByText := true, laidKinds := [.data, .data, .data], laidTests := true, laidLooks := .later }
def LedgerAgainUptoCardSaid : Prop := Claim7.holds Tryd.pinned (.plain (OpenSpec.upto ledgerAgainSpec)) ledgerAgainUptoCard

/-- THE SECOND FORM's CARD OF 'sawmilllaw51.LedgerNone'. -/
def ledgerNoneUptoCard : Claim7 := { stood := { row := ledgerNoneUptoRow, standIns := [], harness := (true, "ab3d53097ea158e58c8d3cef20bf4bd669087ffd0f29ff87189d9bb6aae2af9a"), looks := false }, kinds := [], alts := [], laidByText := true, laidKinds := [.data, .data, .data], laidTests := true, laidLooks := .later }
def LedgerNoneUptoCardSaid : Prop := Claim7.holds Tryd.pinned (.plain (OpenSpec.upto ledgerNoneSpec)) ledgerNoneUptoCard
end Rows
end Go.Proofs.YtgngoijehjphoaaDoor
