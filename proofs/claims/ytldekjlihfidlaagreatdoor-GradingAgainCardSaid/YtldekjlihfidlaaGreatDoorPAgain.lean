/-
  The statement GradingAgain, proved for every input.
-/
import Derived.Test.YtldekjlihfidlaaGreatDoorTop
import Derived.Test.YtldekjlihfidlaaGreatDoorAbs2
import Derived.ProofKit
import Derived.LaidMore
import Derived.OpenShut
import Derived.Stop.Joined
import Derived.SevenTiedAt
import Derived.Test.YtldekjlihfidlaaGreatDoorCards
import Derived.Test.YtldekjlihfidlaaGreatDoorTie
namespace Go.Proofs.YtldekjlihfidlaaGreatDoor
open Go Go.Abs Go.ChangeShapes Go.WideShapes Go.ChangeAt Go.RowKit
set_option maxRecDepth 100000
set_option linter.unusedSimpArgs false
set_option linter.unusedVariables false
theorem gradingAgain_own : ownKnob Tryz.prog.godebug = none := by kernel_rfl
theorem gradingAgain_closed : okS Tryz.prog [3, 50, 30, 9, 25, 23, 26, 82, 28, 4] = true := by kernel_rfl
theorem gradingAgain_types : ∀ t ∈ Tryz.f5.params.toList, t ∈ [3, 50, 30, 9, 25, 23, 26, 82, 28, 4] ∧ Tryz.prog.readableRec t = true ∧ t < Tryz.prog.types.size := by
  have e : Tryz.f5.params.toList = [3, 3, 50] := rfl
  rw [e]
  intro t ht
  simp at ht
  rcases ht with rfl | rfl
  · exact ⟨by simp, by kernel_rfl, by decide +kernel⟩
  · exact ⟨by simp, by kernel_rfl, by decide +kernel⟩
theorem gradingAgain_lifted (os : Os) (started : os.Started) (H : Type) (enc : TypeId × Value → H) :
    ReturnsInHanded {} Tryz.checked os 5 .any (fun w args => (Rows.gradingAgainSpec.pre enc Tryz.prog Tryz.f5 [] false w args ∧ laidMetH Tryz.prog [("math/bits.deBruijn32tab", Rows.laid_math_bits_deBruijn32tab), ("math/bits.deBruijn64tab", Rows.laid_math_bits_deBruijn64tab), ("internal/strconv.uint64pow10", Rows.laid_internal_strconv_uint64pow10)] w) ∧ sizedMet enc Tryz.prog Tryz.f5 (OpenSpec.ofChange Rows.gradingAgainSpec) false w args)
      (Rows.gradingAgainSpec.post enc Tryz.prog Tryz.f5 false true false false) := by
  refine returnsInHanded_of_change_and (C := Tryz.checked) (X := fun w _ => laidMetH Tryz.prog [("math/bits.deBruijn32tab", Rows.laid_math_bits_deBruijn32tab), ("math/bits.deBruijn64tab", Rows.laid_math_bits_deBruijn64tab), ("internal/strconv.uint64pow10", Rows.laid_internal_strconv_uint64pow10)] w) (fun _ _ _ hh h => h.of_heap hh) gradingAgain_own started (by kernel_rfl) Tryz.func5
    (ChangeSpec.witness_shaped (enc := enc) (C := Tryz.checked) (os := os) (X := fun w _ => laidMetH Tryz.prog [("math/bits.deBruijn32tab", Rows.laid_math_bits_deBruijn32tab), ("math/bits.deBruijn64tab", Rows.laid_math_bits_deBruijn64tab), ("internal/strconv.uint64pow10", Rows.laid_internal_strconv_uint64pow10)] w) false (World.doorLaid Tryz.prog 400 os) #[.int .i64 0, .int .i64 0, .slice none 0 0] 8 rfl (World.shaped_of_RefB (by kernel_rfl) (by kernel_rfl)) (by kernel_rfl) (by kernel_rfl) (by kernel_rfl) (door_met os _)) ?_
  intro W base args ds gs before hval0 hW _ _ hL _
  exact law_calls laid gradingAgain_closed gradingAgain_types Tryz.underlying4 rfl rfl (globs_of hL) gradingAgain_abs hval0 hW (fun l hl => by
    match l, hl with
    | [d1, d2, d3], _ => rfl)
theorem gradingAgain_row : Rows.GradingAgainSaid :=
  OpenClaim.holds_of_wide 5 Tryz.f5 rfl rfl rfl rfl rfl rfl rfl ⟨rfl, rfl, rfl, rfl, rfl⟩ rfl rfl rfl rfl rfl (by kernel_rfl) Tryz.func5 (by kernel_rfl)
    (of_decide_eq_true (by kernel_rfl)) (by unfold Func.isWrapper; first | (rw [if_pos (by decide +kernel)]; kernel_rfl) | (rw [if_neg (by decide +kernel)]; exact ⟨rfl, rfl⟩))
    (fun os started H enc _ => gradingAgain_lifted os started H enc)
theorem gradingAgain_holds : Rows.GradingAgainCardSaid :=
  Claim7.holds_tied_plain_at .later [] [.data, .data, .data] true (true, "8d303393c516ee1b90875d083a5ae919ea354e99a5eecf03b76917c563150be4") false
    gradingAgain_row (fun _ h => by cases h) (by kernel_rfl) (fun _ h => by cases h) gradingAgain_row_tie rfl ⟨rfl, rfl⟩ (by kernel_rfl) rfl
    (fun f fn hf hfn => by
      obtain rfl : f = 5 := Option.some.inj ((show Tryz.prog.funcNamed "sawmill/sawmilllaw45.GradingAgain" = some 5 by kernel_rfl).symm.trans hf) |>.symm
      obtain rfl : fn = Tryz.f5 := (Option.some.inj (Tryz.func5.symm.trans hfn)).symm
      exact ⟨by kernel_rfl, fun j t ht => by
        have hp : Tryz.f5.params = #[3, 3, 50] := rfl
        rw [hp] at ht
        have hm : t ∈ [3, 3, 50] := by simpa using Array.mem_of_getElem? ht
        have hall : ([3, 3, 50].all fun u => !Tryz.prog.wantsStandIn u) = true := by kernel_rfl
        exact (show Tryz.prog.wantsStandIn t = false by simpa using List.all_eq_true.1 hall t hm)⟩)
    (by kernel_rfl)
#print axioms gradingAgain_holds
end Go.Proofs.YtldekjlihfidlaaGreatDoor
