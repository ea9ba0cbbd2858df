/-
  The statement KilnCounts, proved for every input.
-/
import Derived.Test.YthgamgdcjgbmnaaDoorKlI
import Derived.Test.YthgamgdcjgbmnaaDoorKlTie
import Derived.Test.YthgamgdcjgbmnaaDoorAbsU
import Derived.ProofKit
import Derived.LaidMore
import Derived.OpenShut
import Derived.Stop.Joined
import Derived.SevenTiedAt
import Derived.Test.YthgamgdcjgbmnaaDoorCards
import Derived.Test.YthgamgdcjgbmnaaDoorTie
namespace Go.Proofs.YthgamgdcjgbmnaaDoor
open Go Go.Abs Go.ChangeShapes Go.WideShapes Go.ChangeAt Go.RowKit
set_option maxRecDepth 100000
set_option linter.unusedSimpArgs false
set_option linter.unusedVariables false
theorem kilnCounts_own : ownKnob Tryd.prog.godebug = none := by kernel_rfl
theorem kilnCounts_closed : okS Tryd.prog [29, 24, 9, 3, 22, 65, 26, 27, 54, 51, 43, 46] = true := by kernel_rfl
theorem kilnCounts_types : ∀ t ∈ Tryd.f5.params.toList, t ∈ [29, 24, 9, 3, 22, 65, 26, 27, 54, 51, 43, 46] ∧ Tryd.prog.readableRec t = true ∧ t < Tryd.prog.types.size := by
  have e : Tryd.f5.params.toList = [29, 43] := rfl
  rw [e]
  intro t ht
  simp at ht
  rcases ht with rfl | rfl
  · exact ⟨by simp, by kernel_rfl, by decide +kernel⟩
  · exact ⟨by simp, by kernel_rfl, by decide +kernel⟩
theorem kilnCounts_lifted (os : Os) (started : os.Started) (H : Type) (enc : TypeId × Value → H) :
    ReturnsInHanded {} Tryd.checked os 5 .any (fun w args => (Rows.kilnCountsSpec.pre enc Tryd.prog Tryd.f5 [] false w args ∧ laidMetH Tryd.prog [("sawmill/kiln.stillAir", Rows.laid_sawmill_kiln_stillAir)] w) ∧ sizedMet enc Tryd.prog Tryd.f5 (OpenSpec.ofChange Rows.kilnCountsSpec) false w args)
      (Rows.kilnCountsSpec.post enc Tryd.prog Tryd.f5 false true false false) := by
  refine returnsInHanded_of_change_and (C := Tryd.checked) (X := fun w _ => laidMetH Tryd.prog [("sawmill/kiln.stillAir", Rows.laid_sawmill_kiln_stillAir)] w) (fun _ _ _ hh h => h.of_heap hh) kilnCounts_own started (by kernel_rfl) Tryd.func5
    (ChangeSpec.witness_shaped (enc := enc) (C := Tryd.checked) (os := os) (X := fun w _ => laidMetH Tryd.prog [("sawmill/kiln.stillAir", Rows.laid_sawmill_kiln_stillAir)] w) false (World.doorLaid Tryd.prog 400 os) #[.agg #[.string ByteArray.empty, .int .i64 0, .slice none 0 0, .string ByteArray.empty, .int .i64 0, .int .i64 0, .int .i64 0, .int .i64 0, .int .i64 0, .int .i64 0, .int .i64 0, .int .i64 0, .int .i64 0, .int .i64 0, .int .i64 0, .int .i64 0, .slice none 0 0], .slice none 0 0] 8 rfl (World.shaped_of_RefB (by kernel_rfl) (by kernel_rfl)) (by kernel_rfl) (by kernel_rfl) (by kernel_rfl) (door_met os _)) ?_
  intro W base args ds gs before hval0 hW _ _ hL _
  exact law_calls laid kilnCounts_closed kilnCounts_types Tryd.underlying4 rfl rfl (globs_of hL) kilnCounts_abs hval0 hW (fun l hl => by
    match l, hl with
    | [d1, d2], _ => rfl)
theorem kilnCounts_row : Rows.KilnCountsSaid :=
  OpenClaim.holds_of_wide 5 Tryd.f5 rfl rfl rfl rfl rfl rfl rfl ⟨rfl, rfl, rfl, rfl, rfl⟩ rfl rfl rfl rfl rfl (by kernel_rfl) Tryd.func5 (by kernel_rfl)
    (of_decide_eq_true (by kernel_rfl)) (by unfold Func.isWrapper; first | (rw [if_pos (by decide +kernel)]; kernel_rfl) | (rw [if_neg (by decide +kernel)]; exact ⟨rfl, rfl⟩))
    (fun os started H enc _ => kilnCounts_lifted os started H enc)
theorem kilnCounts_holds : Rows.KilnCountsCardSaid :=
  Claim7.holds_tied_plain_at .later [] [.data] true (true, "9eaffc5cc21f678d548be8536823ffa55f5dc18f4e1252b547511c5de4fb1401") false
    kilnCounts_row (fun _ h => by cases h) (by kernel_rfl) (fun _ h => by cases h) kilnCounts_row_tie rfl ⟨rfl, rfl⟩ (by kernel_rfl) rfl
    (fun f fn hf hfn => by
      obtain rfl : f = 5 := Option.some.inj ((show Tryd.prog.funcNamed "sawmill/sawmilllaw38.KilnCounts" = some 5 by kernel_rfl).symm.trans hf) |>.symm
      obtain rfl : fn = Tryd.f5 := (Option.some.inj (Tryd.func5.symm.trans hfn)).symm
      exact ⟨by kernel_rfl, fun j t ht => by
        have hp : Tryd.f5.params = #[29, 43] := rfl
        rw [hp] at ht
        have hm : t ∈ [29, 43] := by simpa using Array.mem_of_getElem? ht
        have hall : ([29, 43].all fun u => !Tryd.prog.wantsStandIn u) = true := by kernel_rfl
        exact (show Tryd.prog.wantsStandIn t = false by simpa using List.all_eq_true.1 hall t hm)⟩)
    (by kernel_rfl)
#print axioms kilnCounts_holds
end Go.Proofs.YthgamgdcjgbmnaaDoor
