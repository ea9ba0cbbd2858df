/-
  The statement LedgerAgain, proved for every input.
-/
import Derived.Test.YtgngoijehjphoaaDoorLhF
import Derived.Test.YtgngoijehjphoaaDoorGrTie
import Derived.Test.YtgngoijehjphoaaDoorAbs3
import Derived.ProofKit
import Derived.LaidMore
import Derived.OpenShut
import Derived.Stop.Joined
import Derived.SevenTiedAt
import Derived.Test.YtgngoijehjphoaaDoorCards
import Derived.Test.YtgngoijehjphoaaDoorTie
namespace Go.Proofs.YtgngoijehjphoaaDoor
open Go Go.Abs Go.ChangeShapes Go.WideShapes Go.ChangeAt Go.RowKit
set_option maxRecDepth 100000
set_option linter.unusedSimpArgs false
set_option linter.unusedVariables false
theorem ledgerAgain_own : ownKnob Tryd.prog.godebug = none := by kernel_rfl
theorem ledgerAgain_closed : okS Tryd.prog [22, 9, 29, 41, 3, 39, 47] = true := by kernel_rfl
theorem ledgerAgain_types : ∀ t ∈ Tryd.f7.params.toList, t ∈ [22, 9, 29, 41, 3, 39, 47] ∧ Tryd.prog.readableRec t = true ∧ t < Tryd.prog.types.size := by
  have e : Tryd.f7.params.toList = [22, 29] := rfl
  rw [e]
  intro t ht
  simp at ht
  rcases ht with rfl | rfl
  · exact ⟨by simp, by kernel_rfl, by decide +kernel⟩
  · exact ⟨by simp, by kernel_rfl, by decide +kernel⟩
theorem ledgerAgain_lifted (os : Os) (started : os.Started) (H : Type) (enc : TypeId × Value → H) :
    ReturnsInHanded {} Tryd.checked os 7 .any (fun w args => (Rows.ledgerAgainSpec.pre enc Tryd.prog Tryd.f7 [] false w args ∧ laidMetH Tryd.prog [("math/bits.deBruijn32tab", Rows.laid_math_bits_deBruijn32tab), ("math/bits.deBruijn64tab", Rows.laid_math_bits_deBruijn64tab), ("internal/strconv.uint64pow10", Rows.laid_internal_strconv_uint64pow10)] w) ∧ sizedMet enc Tryd.prog Tryd.f7 (OpenSpec.ofChange Rows.ledgerAgainSpec) false w args)
      (Rows.ledgerAgainSpec.post enc Tryd.prog Tryd.f7 false true false false) := by
  refine returnsInHanded_of_change_and (C := Tryd.checked) (X := fun w _ => laidMetH Tryd.prog [("math/bits.deBruijn32tab", Rows.laid_math_bits_deBruijn32tab), ("math/bits.deBruijn64tab", Rows.laid_math_bits_deBruijn64tab), ("internal/strconv.uint64pow10", Rows.laid_internal_strconv_uint64pow10)] w) (fun _ _ _ hh h => h.of_heap hh) ledgerAgain_own started (by kernel_rfl) Tryd.func7
    (ChangeSpec.witness_shaped (enc := enc) (C := Tryd.checked) (os := os) (X := fun w _ => laidMetH Tryd.prog [("math/bits.deBruijn32tab", Rows.laid_math_bits_deBruijn32tab), ("math/bits.deBruijn64tab", Rows.laid_math_bits_deBruijn64tab), ("internal/strconv.uint64pow10", Rows.laid_internal_strconv_uint64pow10)] w) false (World.doorLaid Tryd.prog 400 os) #[.slice none 0 0, .slice none 0 0] 8 rfl (World.shaped_of_RefB (by kernel_rfl) (by kernel_rfl)) (by kernel_rfl) (by kernel_rfl) (by kernel_rfl) (door_met os _)) ?_
  intro W base args ds gs before hval0 hW _ _ hL _
  exact law_calls laid ledgerAgain_closed ledgerAgain_types Tryd.underlying4 rfl rfl (globs_of hL) ledgerAgain_abs hval0 hW (fun l hl => by
    match l, hl with
    | [d1, d2], _ => rfl)
theorem ledgerAgain_row : Rows.LedgerAgainSaid :=
  OpenClaim.holds_of_wide 7 Tryd.f7 rfl rfl rfl rfl rfl rfl rfl ⟨rfl, rfl, rfl, rfl, rfl⟩ rfl rfl rfl rfl rfl (by kernel_rfl) Tryd.func7 (by kernel_rfl)
    (of_decide_eq_true (by kernel_rfl)) (by unfold Func.isWrapper; first | (rw [if_pos (by decide +kernel)]; kernel_rfl) | (rw [if_neg (by decide +kernel)]; exact ⟨rfl, rfl⟩))
    (fun os started H enc _ => ledgerAgain_lifted os started H enc)
theorem ledgerAgain_holds : Rows.LedgerAgainCardSaid :=
  Claim7.holds_tied_plain_at .later [] [.data, .data, .data] true (true, "ab3d53097ea158e58c8d3cef20bf4bd669087ffd0f29ff87189d9bb6aae2af9a") false
    ledgerAgain_row (fun _ h => by cases h) (by kernel_rfl) (fun _ h => by cases h) ledgerAgain_row_tie rfl ⟨rfl, rfl⟩ (by kernel_rfl) rfl
    (fun f fn hf hfn => by
      obtain rfl : f = 7 := Option.some.inj ((show Tryd.prog.funcNamed "sawmill/sawmilllaw51.LedgerAgain" = some 7 by kernel_rfl).symm.trans hf) |>.symm
      obtain rfl : fn = Tryd.f7 := (Option.some.inj (Tryd.func7.symm.trans hfn)).symm
      exact ⟨by kernel_rfl, fun j t ht => by
        have hp : Tryd.f7.params = #[22, 29] := rfl
        rw [hp] at ht
        have hm : t ∈ [22, 29] := by simpa using Array.mem_of_getElem? ht
        have hall : ([22, 29].all fun u => !Tryd.prog.wantsStandIn u) = true := by kernel_rfl
        exact (show Tryd.prog.wantsStandIn t = false by simpa using List.all_eq_true.1 hall t hm)⟩)
    (by kernel_rfl)
#print axioms ledgerAgain_holds
end Go.Proofs.YtgngoijehjphoaaDoor
