/-
  The statement LedgerNone, proved for every input.
-/
import Derived.Test.YtgngoijehjphoaaDoorLhF
import Derived.Test.YtgngoijehjphoaaDoorGrTie
import Derived.Test.YtgngoijehjphoaaDoorAbs3
import Derived.ProofKit
import Derived.LaidMore
import Derived.OpenShut
import Derived.Stop.Joined
import Derived.SevenTiedAt
import Derived.Test.YtgngoijehjphoaaDoorCards
import Derived.Test.YtgngoijehjphoaaDoorTie
namespace Go.Proofs.YtgngoijehjphoaaDoor
open Go Go.Abs Go.ChangeShapes Go.WideShapes Go.ChangeAt Go.RowKit
set_option maxRecDepth 100000
set_option linter.unusedSimpArgs false
set_option linter.unusedVariables false
theorem ledgerNone_own : ownKnob Tryd.prog.godebug = none := by kernel_rfl
theorem ledgerNone_closed : okS Tryd.prog [41, 9, 3, 39, 47] = true := by kernel_rfl
theorem ledgerNone_types : ∀ t ∈ Tryd.f8.params.toList, t ∈ [41, 9, 3, 39, 47] ∧ Tryd.prog.readableRec t = true ∧ t < Tryd.prog.types.size := by
  have e : Tryd.f8.params.toList = [41] := rfl
  rw [e]
  intro t ht
  simp at ht
  subst ht
  exact ⟨by simp, by kernel_rfl, by decide +kernel⟩
theorem ledgerNone_lifted (os : Os) (started : os.Started) (H : Type) (enc : TypeId × Value → H) :
    ReturnsInHanded {} Tryd.checked os 8 .any (fun w args => (Rows.ledgerNoneSpec.pre enc Tryd.prog Tryd.f8 [] false w args ∧ laidMetH Tryd.prog [("math/bits.deBruijn32tab", Rows.laid_math_bits_deBruijn32tab), ("math/bits.deBruijn64tab", Rows.laid_math_bits_deBruijn64tab), ("internal/strconv.uint64pow10", Rows.laid_internal_strconv_uint64pow10)] w) ∧ sizedMet enc Tryd.prog Tryd.f8 (OpenSpec.ofChange Rows.ledgerNoneSpec) false w args)
      (Rows.ledgerNoneSpec.post enc Tryd.prog Tryd.f8 false true false false) := by
  refine returnsInHanded_of_change_and (C := Tryd.checked) (X := fun w _ => laidMetH Tryd.prog [("math/bits.deBruijn32tab", Rows.laid_math_bits_deBruijn32tab), ("math/bits.deBruijn64tab", Rows.laid_math_bits_deBruijn64tab), ("internal/strconv.uint64pow10", Rows.laid_internal_strconv_uint64pow10)] w) (fun _ _ _ hh h => h.of_heap hh) ledgerNone_own started (by kernel_rfl) Tryd.func8
    (ChangeSpec.witness_shaped (enc := enc) (C := Tryd.checked) (os := os) (X := fun w _ => laidMetH Tryd.prog [("math/bits.deBruijn32tab", Rows.laid_math_bits_deBruijn32tab), ("math/bits.deBruijn64tab", Rows.laid_math_bits_deBruijn64tab), ("internal/strconv.uint64pow10", Rows.laid_internal_strconv_uint64pow10)] w) false (World.doorLaid Tryd.prog 400 os) #[.agg #[.string ByteArray.empty, .int .i64 0, .slice none 0 0]] 8 rfl (World.shaped_of_RefB (by kernel_rfl) (by kernel_rfl)) (by kernel_rfl) (by kernel_rfl) (by kernel_rfl) (door_met os _)) ?_
  intro W base args ds gs before hval0 hW _ _ hL _
  exact law_calls laid ledgerNone_closed ledgerNone_types Tryd.underlying4 rfl rfl (globs_of hL) ledgerNone_abs hval0 hW (fun l hl => by
    match l, hl with
    | [d1], _ => rfl)
theorem ledgerNone_row : Rows.LedgerNoneSaid :=
  OpenClaim.holds_of_wide 8 Tryd.f8 rfl rfl rfl rfl rfl rfl rfl ⟨rfl, rfl, rfl, rfl, rfl⟩ rfl rfl rfl rfl rfl (by kernel_rfl) Tryd.func8 (by kernel_rfl)
    (of_decide_eq_true (by kernel_rfl)) (by unfold Func.isWrapper; first | (rw [if_pos (by decide +kernel)]; kernel_rfl) | (rw [if_neg (by decide +kernel)]; exact ⟨rfl, rfl⟩))
    (fun os started H enc _ => ledgerNone_lifted os started H enc)
theorem ledgerNone_holds : Rows.LedgerNoneCardSaid :=
  Claim7.holds_tied_plain_at .later [] [.data, .data, .data] true (true, "ab3d53097ea158e58c8d3cef20bf4bd669087ffd0f29ff87189d9bb6aae2af9a") false
    ledgerNone_row (fun _ h => by cases h) (by kernel_rfl) (fun _ h => by cases h) ledgerNone_row_tie rfl ⟨rfl, rfl⟩ (by kernel_rfl) rfl
    (fun f fn hf hfn => by
      obtain rfl : f = 8 := Option.some.inj ((show Tryd.prog.funcNamed "sawmill/sawmilllaw51.LedgerNone" = some 8 by kernel_rfl).symm.trans hf) |>.symm
      obtain rfl : fn = Tryd.f8 := (Option.some.inj (Tryd.func8.symm.trans hfn)).symm
      exact ⟨by kernel_rfl, fun j t ht => by
        have hp : Tryd.f8.params = #[41] := rfl
        rw [hp] at ht
        have hm : t ∈ [41] := by simpa using Array.mem_of_getElem? ht
        have hall : ([41].all fun u => !Tryd.prog.wantsStandIn u) = true := by kernel_rfl
        exact (show Tryd.prog.wantsStandIn t = false by simpa using List.all_eq_true.1 hall t hm)⟩)
    (by kernel_rfl)
#print axioms ledgerNone_holds
end Go.Proofs.YtgngoijehjphoaaDoor
