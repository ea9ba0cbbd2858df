/-
  The statement KilnAlone, proved for every input.
-/
import Derived.Test.YthgamgdcjgbmnaaDoorKlK
import Derived.Test.YthgamgdcjgbmnaaDoorKlTie
import Derived.Test.YthgamgdcjgbmnaaDoorAbs2
import Derived.ProofKit
import Derived.LaidMore
import Derived.OpenShut
import Derived.Stop.Joined
import Derived.SevenTiedAt
import Derived.Test.YthgamgdcjgbmnaaDoorCards
import Derived.Test.YthgamgdcjgbmnaaDoorTie
namespace Go.Proofs.YthgamgdcjgbmnaaDoor
open Go Go.Abs Go.ChangeShapes Go.WideShapes Go.ChangeAt Go.RowKit
set_option maxRecDepth 100000
set_option linter.unusedSimpArgs false
set_option linter.unusedVariables false
theorem kilnAlone_own : ownKnob Tryd.prog.godebug = none := by kernel_rfl
theorem kilnAlone_closed : okS Tryd.prog [29, 24, 9, 3, 22, 65, 26, 27, 54, 51, 5, 43, 46] = true := by kernel_rfl
theorem kilnAlone_types : ∀ t ∈ Tryd.f6.params.toList, t ∈ [29, 24, 9, 3, 22, 65, 26, 27, 54, 51, 5, 43, 46] ∧ Tryd.prog.readableRec t = true ∧ t < Tryd.prog.types.size := by
  have e : Tryd.f6.params.toList = [29, 5, 43] := rfl
  rw [e]
  intro t ht
  simp at ht
  rcases ht with rfl | rfl | rfl
  · exact ⟨by simp, by kernel_rfl, by decide +kernel⟩
  · exact ⟨by simp, by kernel_rfl, by decide +kernel⟩
  · exact ⟨by simp, by kernel_rfl, by decide +kernel⟩
theorem kilnAlone_lifted (os : Os) (started : os.Started) (H : Type) (enc : TypeId × Value → H) :
    ReturnsInHanded {} Tryd.checked os 6 .any (fun w args => (Rows.kilnAloneSpec.pre enc Tryd.prog Tryd.f6 [] false w args ∧ laidMetH Tryd.prog [("sawmill/kiln.stillAir", Rows.laid_sawmill_kiln_stillAir)] w) ∧ sizedMet enc Tryd.prog Tryd.f6 (OpenSpec.ofChange Rows.kilnAloneSpec) false w args)
      (Rows.kilnAloneSpec.post enc Tryd.prog Tryd.f6 false true false false) := by
  refine returnsInHanded_of_change_and (C := Tryd.checked) (X := fun w _ => laidMetH Tryd.prog [("sawmill/kiln.stillAir", Rows.laid_sawmill_kiln_stillAir)] w) (fun _ _ _ hh h => h.of_heap hh) kilnAlone_own started (by kernel_rfl) Tryd.func6
    (ChangeSpec.witness_shaped (enc := enc) (C := Tryd.checked) (os := os) (X := fun w _ => laidMetH Tryd.prog [("sawmill/kiln.stillAir", Rows.laid_sawmill_kiln_stillAir)] w) false (World.doorLaid Tryd.prog 400 os) #[.agg #[.string ByteArray.empty, .int .i64 0, .slice none 0 0, .string ByteArray.empty, .int .i64 0, .int .i64 0, .int .i64 0, .int .i64 0, .int .i64 0, .int .i64 0, .int .i64 0, .int .i64 0, .int .i64 0, .int .i64 0, .int .i64 0, .int .i64 0, .slice none 0 0], .int .u8 0, .slice none 0 0] 8 rfl (World.shaped_of_RefB (by kernel_rfl) (by kernel_rfl)) (by kernel_rfl) (by kernel_rfl) (by kernel_rfl) (door_met os _)) ?_
  intro W base args ds gs before hval0 hW _ _ hL _
  exact law_calls laid kilnAlone_closed kilnAlone_types Tryd.underlying4 rfl rfl (globs_of hL) kilnAlone_abs hval0 hW (fun l hl => by
    match l, hl with
    | [d1, d2, d3], _ => rfl)
theorem kilnAlone_row : Rows.KilnAloneSaid :=
  OpenClaim.holds_of_wide 6 Tryd.f6 rfl rfl rfl rfl rfl rfl rfl ⟨rfl, rfl, rfl, rfl, rfl⟩ rfl rfl rfl rfl rfl (by kernel_rfl) Tryd.func6 (by kernel_rfl)
    (of_decide_eq_true (by kernel_rfl)) (by unfold Func.isWrapper; first | (rw [if_pos (by decide +kernel)]; kernel_rfl) | (rw [if_neg (by decide +kernel)]; exact ⟨rfl, rfl⟩))
    (fun os started H enc _ => kilnAlone_lifted os started H enc)
theorem kilnAlone_holds : Rows.KilnAloneCardSaid :=
  Claim7.holds_tied_plain_at .later [] [.data] true (true, "9eaffc5cc21f678d548be8536823ffa55f5dc18f4e1252b547511c5de4fb1401") false
    kilnAlone_row (fun _ h => by cases h) (by kernel_rfl) (fun _ h => by cases h) kilnAlone_row_tie rfl ⟨rfl, rfl⟩ (by kernel_rfl) rfl
    (fun f fn hf hfn => by
      obtain rfl : f = 6 := Option.some.inj ((show Tryd.prog.funcNamed "sawmill/sawmilllaw38.KilnAlone" = some 6 by kernel_rfl).symm.trans hf) |>.symm
      obtain rfl : fn = Tryd.f6 := (Option.some.inj (Tryd.func6.symm.trans hfn)).symm
      exact ⟨by kernel_rfl, fun j t ht => by
        have hp : Tryd.f6.params = #[29, 5, 43] := rfl
        rw [hp] at ht
        have hm : t ∈ [29, 5, 43] := by simpa using Array.mem_of_getElem? ht
        have hall : ([29, 5, 43].all fun u => !Tryd.prog.wantsStandIn u) = true := by kernel_rfl
        exact (show Tryd.prog.wantsStandIn t = false by simpa using List.all_eq_true.1 hall t hm)⟩)
    (by kernel_rfl)
#print axioms kilnAlone_holds
end Go.Proofs.YthgamgdcjgbmnaaDoor
