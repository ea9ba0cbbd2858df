/-
  The statement KilnLimits, proved for every input.
-/
import Derived.Test.YthgamgdcjgbmnaaDoorKlV
import Derived.Test.YthgamgdcjgbmnaaDoorKlTie
import Derived.Test.YthgamgdcjgbmnaaDoorAbsU
import Derived.ProofKit
import Derived.LaidMore
import Derived.OpenShut
import Derived.Stop.Joined
import Derived.SevenTiedAt
import Derived.Test.YthgamgdcjgbmnaaDoorCards
import Derived.Test.YthgamgdcjgbmnaaDoorTie
namespace Go.Proofs.YthgamgdcjgbmnaaDoor
open Go Go.Abs Go.ChangeShapes Go.WideShapes Go.ChangeAt Go.RowKit
set_option maxRecDepth 100000
set_option linter.unusedSimpArgs false
set_option linter.unusedVariables false
theorem kilnLimits_own : ownKnob Tryd.prog.godebug = none := by kernel_rfl
theorem kilnLimits_closed : okS Tryd.prog [29, 24, 9, 3, 22, 65, 26, 27, 54, 51, 43, 46] = true := by kernel_rfl
theorem kilnLimits_types : ∀ t ∈ Tryd.f4.params.toList, t ∈ [29, 24, 9, 3, 22, 65, 26, 27, 54, 51, 43, 46] ∧ Tryd.prog.readableRec t = true ∧ t < Tryd.prog.types.size := by
  have e : Tryd.f4.params.toList = [29, 43] := rfl
  rw [e]
  intro t ht
  simp at ht
  rcases ht with rfl | rfl
  · exact ⟨by simp, by kernel_rfl, by decide +kernel⟩
  · exact ⟨by simp, by kernel_rfl, by decide +kernel⟩
theorem kilnLimits_lifted (os : Os) (started : os.Started) (H : Type) (enc : TypeId × Value → H) :
    ReturnsInHanded {} Tryd.checked os 4 .any (fun w args => (Rows.kilnLimitsSpec.pre enc Tryd.prog Tryd.f4 [] false w args ∧ laidMetH Tryd.prog [("sawmill/kiln.stillAir", Rows.laid_sawmill_kiln_stillAir)] w) ∧ sizedMet enc Tryd.prog Tryd.f4 (OpenSpec.ofChange Rows.kilnLimitsSpec) false w args)
      (Rows.kilnLimitsSpec.post enc Tryd.prog Tryd.f4 false true false false) := by
  refine returnsInHanded_of_change_and (C := Tryd.checked) (X := fun w _ => laidMetH Tryd.prog [("sawmill/kiln.stillAir", Rows.laid_sawmill_kiln_stillAir)] w) (fun _ _ _ hh h => h.of_heap hh) kilnLimits_own started (by kernel_rfl) Tryd.func4
    (ChangeSpec.witness_shaped (enc := enc) (C := Tryd.checked) (os := os) (X := fun w _ => laidMetH Tryd.prog [("sawmill/kiln.stillAir", Rows.laid_sawmill_kiln_stillAir)] w) false (World.doorLaid Tryd.prog 400 os) #[.agg #[.string ByteArray.empty, .int .i64 0, .slice none 0 0, .string ByteArray.empty, .int .i64 0, .int .i64 0, .int .i64 0, .int .i64 0, .int .i64 0, .int .i64 0, .int .i64 0, .int .i64 0, .int .i64 0, .int .i64 0, .int .i64 0, .int .i64 0, .slice none 0 0], .slice none 0 0] 8 rfl (World.shaped_of_RefB (by kernel_rfl) (by kernel_rfl)) (by kernel_rfl) (by kernel_rfl) (by kernel_rfl) (door_met os _)) ?_
  intro W base args ds gs before hval0 hW _ _ hL _
  exact law_calls laid kilnLimits_closed kilnLimits_types Tryd.underlying4 rfl rfl (globs_of hL) kilnLimits_abs hval0 hW (fun l hl => by
    match l, hl with
    | [d1, d2], _ => rfl)
theorem kilnLimits_row : Rows.KilnLimitsSaid :=
  OpenClaim.holds_of_wide 4 Tryd.f4 rfl rfl rfl rfl rfl rfl rfl ⟨rfl, rfl, rfl, rfl, rfl⟩ rfl rfl rfl rfl rfl (by kernel_rfl) Tryd.func4 (by kernel_rfl)
    (of_decide_eq_true (by kernel_rfl)) (by unfold Func.isWrapper; first | (rw [if_pos (by decide +kernel)]; kernel_rfl) | (rw [if_neg (by decide +kernel)]; exact ⟨rfl, rfl⟩))
    (fun os started H enc _ => kilnLimits_lifted os started H enc)
theorem kilnLimits_holds : Rows.KilnLimitsCardSaid :=
  Claim7.holds_tied_plain_at .later [] [.data] true (true, "9eaffc5cc21f678d548be8536823ffa55f5dc18f4e1252b547511c5de4fb1401") false
    kilnLimits_row (fun _ h => by cases h) (by kernel_rfl) (fun _ h => by cases h) kilnLimits_row_tie rfl ⟨rfl, rfl⟩ (by kernel_rfl) rfl
    (fun f fn hf hfn => by
      obtain rfl : f = 4 := Option.some.inj ((show Tryd.prog.funcNamed "sawmill/sawmilllaw38.KilnLimits" = some 4 by kernel_rfl).symm.trans hf) |>.symm
      obtain rfl : fn = Tryd.f4 := (Option.some.inj (Tryd.func4.symm.trans hfn)).symm
      exact ⟨by kernel_rfl, fun j t ht => by
        have hp : Tryd.f4.params = #[29, 43] := rfl
        rw [hp] at ht
        have hm : t ∈ [29, 43] := by simpa using Array.mem_of_getElem? ht
        have hall : ([29, 43].all fun u => !Tryd.prog.wantsStandIn u) = true := by kernel_rfl
        exact (show Tryd.prog.wantsStandIn t = false by simpa using List.all_eq_true.1 hall t hm)⟩)
    (by kernel_rfl)
#print axioms kilnLimits_holds
end Go.Proofs.YthgamgdcjgbmnaaDoor
