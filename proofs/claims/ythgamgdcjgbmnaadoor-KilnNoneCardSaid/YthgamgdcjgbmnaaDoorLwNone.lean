/-
  The statement KilnNone, proved for every input.
-/
import Derived.Test.YthgamgdcjgbmnaaDoorKlU
import Derived.Test.YthgamgdcjgbmnaaDoorKlTie
import Derived.Test.YthgamgdcjgbmnaaDoorAbsU
import Derived.ProofKit
import Derived.LaidMore
import Derived.OpenShut
import Derived.Stop.Joined
import Derived.SevenTiedAt
import Derived.Test.YthgamgdcjgbmnaaDoorCards
import Derived.Test.YthgamgdcjgbmnaaDoorTie
namespace Go.Proofs.YthgamgdcjgbmnaaDoor
open Go Go.Abs Go.ChangeShapes Go.WideShapes Go.ChangeAt Go.RowKit
set_option maxRecDepth 100000
set_option linter.unusedSimpArgs false
set_option linter.unusedVariables false
theorem kilnNone_own : ownKnob Tryd.prog.godebug = none := by kernel_rfl
theorem kilnNone_closed : okS Tryd.prog [46, 3] = true := by kernel_rfl
theorem kilnNone_types : ∀ t ∈ Tryd.f7.params.toList, t ∈ [46, 3] ∧ Tryd.prog.readableRec t = true ∧ t < Tryd.prog.types.size := by
  have e : Tryd.f7.params.toList = [46] := rfl
  rw [e]
  intro t ht
  simp at ht
  subst ht
  exact ⟨by simp, by kernel_rfl, by decide +kernel⟩
theorem kilnNone_lifted (os : Os) (started : os.Started) (H : Type) (enc : TypeId × Value → H) :
    ReturnsInHanded {} Tryd.checked os 7 .any (fun w args => (Rows.kilnNoneSpec.pre enc Tryd.prog Tryd.f7 [] false w args ∧ laidMetH Tryd.prog [("sawmill/kiln.stillAir", Rows.laid_sawmill_kiln_stillAir)] w) ∧ sizedMet enc Tryd.prog Tryd.f7 (OpenSpec.ofChange Rows.kilnNoneSpec) false w args)
      (Rows.kilnNoneSpec.post enc Tryd.prog Tryd.f7 false true false false) := by
  refine returnsInHanded_of_change_and (C := Tryd.checked) (X := fun w _ => laidMetH Tryd.prog [("sawmill/kiln.stillAir", Rows.laid_sawmill_kiln_stillAir)] w) (fun _ _ _ hh h => h.of_heap hh) kilnNone_own started (by kernel_rfl) Tryd.func7
    (ChangeSpec.witness_shaped (enc := enc) (C := Tryd.checked) (os := os) (X := fun w _ => laidMetH Tryd.prog [("sawmill/kiln.stillAir", Rows.laid_sawmill_kiln_stillAir)] w) false (World.doorLaid Tryd.prog 400 os) #[.slice none 0 0] 8 rfl (World.shaped_of_RefB (by kernel_rfl) (by kernel_rfl)) (by kernel_rfl) (by kernel_rfl) (by kernel_rfl) (door_met os _)) ?_
  intro W base args ds gs before hval0 hW _ _ hL _
  exact law_calls laid kilnNone_closed kilnNone_types Tryd.underlying4 rfl rfl (globs_of hL) kilnNone_abs hval0 hW (fun l hl => by
    match l, hl with
    | [d1], _ => rfl)
theorem kilnNone_row : Rows.KilnNoneSaid :=
  OpenClaim.holds_of_wide 7 Tryd.f7 rfl rfl rfl rfl rfl rfl rfl ⟨rfl, rfl, rfl, rfl, rfl⟩ rfl rfl rfl rfl rfl (by kernel_rfl) Tryd.func7 (by kernel_rfl)
    (of_decide_eq_true (by kernel_rfl)) (by unfold Func.isWrapper; first | (rw [if_pos (by decide +kernel)]; kernel_rfl) | (rw [if_neg (by decide +kernel)]; exact ⟨rfl, rfl⟩))
    (fun os started H enc _ => kilnNone_lifted os started H enc)
theorem kilnNone_holds : Rows.KilnNoneCardSaid :=
  Claim7.holds_tied_plain_at .later [] [.data] true (true, "9eaffc5cc21f678d548be8536823ffa55f5dc18f4e1252b547511c5de4fb1401") false
    kilnNone_row (fun _ h => by cases h) (by kernel_rfl) (fun _ h => by cases h) kilnNone_row_tie rfl ⟨rfl, rfl⟩ (by kernel_rfl) rfl
    (fun f fn hf hfn => by
      obtain rfl : f = 7 := Option.some.inj ((show Tryd.prog.funcNamed "sawmill/sawmilllaw38.KilnNone" = some 7 by kernel_rfl).symm.trans hf) |>.symm
      obtain rfl : fn = Tryd.f7 := (Option.some.inj (Tryd.func7.symm.trans hfn)).symm
      exact ⟨by kernel_rfl, fun j t ht => by
        have hp : Tryd.f7.params = #[46] := rfl
        rw [hp] at ht
        have hm : t ∈ [46] := by simpa using Array.mem_of_getElem? ht
        have hall : ([46].all fun u => !Tryd.prog.wantsStandIn u) = true := by kernel_rfl
        exact (show Tryd.prog.wantsStandIn t = false by simpa using List.all_eq_true.1 hall t hm)⟩)
    (by kernel_rfl)
#print axioms kilnNone_holds
end Go.Proofs.YthgamgdcjgbmnaaDoor
