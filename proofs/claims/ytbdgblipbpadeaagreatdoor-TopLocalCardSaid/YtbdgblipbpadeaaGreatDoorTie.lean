/-
  DERIVED. GIVEN WITH THE SEED: THE PROGRAM's TIES (one call each: nine closed facts by the kernel) AND EACH ROW's TIE, after the 31st guide's Derived/Test/Toyas{Tie, Card}.lean. No idea stands in it: it is a product of the set-up. Laid BY PROGRAM, IN A SANDBOX (cutbox-door.mjs). By AI agents, Wed Nov 11 2026. No macro, syntax, notation, axiom, sorry.
-/
import Derived.Test.YtbdgblipbpadeaaGreatDoorRows
import Derived.LaidByTextLater
import Derived.SevenTiedAt
import Derived.LaidSub
import Derived.LaidOnce
namespace Go.Proofs.YtbdgblipbpadeaaGreatDoor
open Go
set_option maxRecDepth 100000
theorem seatTie1 : Tryz.prog.laidByTextLater [("sawmill/poly.turns", Rows.laid_sawmill_poly_turns), ("sawmill/ring.directions", Rows.laid_sawmill_ring_directions), ("sawmill/kiln.stillAir", Rows.laid_sawmill_kiln_stillAir)] [.data, .data, .data] true :=
  Program.laidByTextLater_by_one 28 8 9 (by kernel_rfl) (by kernel_rfl) (by kernel_rfl) (by kernel_rfl) (by kernel_rfl) (by kernel_rfl) (fun _ _ => by kernel_rfl)
theorem noOwnUnsafe : Tryz.pinned.checked.prog.headLifts.contains "ownunsafe" = false := by kernel_rfl
theorem tie : Tryz.prog.laidByTextLater [("sawmill/poly.turns", Rows.laid_sawmill_poly_turns), ("sawmill/ring.directions", Rows.laid_sawmill_ring_directions), ("sawmill/kiln.stillAir", Rows.laid_sawmill_kiln_stillAir)] [.data, .data, .data] true :=
  Program.laidByTextLater.sub seatTie1 ["sawmill/poly.turns", "sawmill/ring.directions", "sawmill/kiln.stillAir"] (by kernel_rfl) (by kernel_rfl)
theorem topLocal_row_tie : Rows.topLocalRow.laidByTextAt .later Tryz.pinned [.data, .data, .data] true :=
  OpenClaim.laidByTextAt_later rfl rfl tie noOwnUnsafe
theorem topLocalUpto_row_tie : Rows.topLocalUptoRow.laidByTextAt .later Tryz.pinned [.data, .data, .data] true :=
  OpenClaim.laidByTextAt_later rfl rfl tie noOwnUnsafe
end Go.Proofs.YtbdgblipbpadeaaGreatDoor
