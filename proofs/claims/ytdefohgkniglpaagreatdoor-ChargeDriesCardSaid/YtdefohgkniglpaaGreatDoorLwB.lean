/-
  The statement ChargeDries, proved for every input.
-/
import Derived.Test.YtdefohgkniglpaaGreatDoorChX
import Derived.Test.YtdefohgkniglpaaGreatDoorKlTie
import Derived.Test.YtdefohgkniglpaaGreatDoorAbs2
import Derived.ProofKit
import Derived.LaidMore
import Derived.OpenShut
import Derived.Stop.Joined
import Derived.SevenTiedAt
import Derived.Test.YtdefohgkniglpaaGreatDoorCards
import Derived.Test.YtdefohgkniglpaaGreatDoorTie
namespace Go.Proofs.YtdefohgkniglpaaGreatDoor
open Go Go.Abs Go.ChangeShapes Go.WideShapes Go.ChangeAt Go.RowKit
set_option maxRecDepth 100000
set_option linter.unusedSimpArgs false
set_option linter.unusedVariables false
theorem chargeDries_own : ownKnob Tryz.prog.godebug = none := by kernel_rfl
theorem chargeDries_closed : okS Tryz.prog [30, 22, 57, 9, 3, 52, 50, 53, 115, 55, 4, 24, 27, 25, 85, 28, 62] = true := by kernel_rfl
theorem chargeDries_types : ∀ t ∈ Tryz.f4.params.toList, t ∈ [30, 22, 57, 9, 3, 52, 50, 53, 115, 55, 4, 24, 27, 25, 85, 28, 62] ∧ Tryz.prog.readableRec t = true ∧ t < Tryz.prog.types.size := by
  have e : Tryz.f4.params.toList = [30] := rfl
  rw [e]
  intro t ht
  simp at ht
  subst ht
  exact ⟨by simp, by kernel_rfl, by decide +kernel⟩
theorem chargeDries_lifted (os : Os) (started : os.Started) (H : Type) (enc : TypeId × Value → H) :
    ReturnsInHanded {} Tryz.checked os 4 .any (fun w args => (Rows.chargeDriesSpec.pre enc Tryz.prog Tryz.f4 [] false w args ∧ laidMetH Tryz.prog [("sawmill/kiln.stillAir", Rows.laid_sawmill_kiln_stillAir)] w) ∧ sizedMet enc Tryz.prog Tryz.f4 (OpenSpec.ofChange Rows.chargeDriesSpec) false w args)
      (Rows.chargeDriesSpec.post enc Tryz.prog Tryz.f4 false true false false) := by
  refine returnsInHanded_of_change_and (C := Tryz.checked) (X := fun w _ => laidMetH Tryz.prog [("sawmill/kiln.stillAir", Rows.laid_sawmill_kiln_stillAir)] w) (fun _ _ _ hh h => h.of_heap hh) chargeDries_own started (by kernel_rfl) Tryz.func4
    (ChangeSpec.witness_shaped (enc := enc) (C := Tryz.checked) (os := os) (X := fun w _ => laidMetH Tryz.prog [("sawmill/kiln.stillAir", Rows.laid_sawmill_kiln_stillAir)] w) false (World.doorLaid Tryz.prog 400 os) #[.agg #[.slice none 0 0, .string ByteArray.empty, .int .i64 0, .int .i64 0, .int .i64 0, .int .i64 0, .int .i64 0, .int .i64 0, .int .i64 0, .int .i64 0, .int .i64 0, .int .i64 0, .int .i64 0, .int .i64 0, .string ByteArray.empty, .int .i64 0, .slice none 0 0, .slice none 0 0, .int .i64 0]] 8 rfl (World.shaped_of_RefB (by kernel_rfl) (by kernel_rfl)) (by kernel_rfl) (by kernel_rfl) (by kernel_rfl) (door_met os _)) ?_
  intro W base args ds gs before hval0 hW _ _ hL _
  exact law_calls laid chargeDries_closed chargeDries_types Tryz.underlying4 rfl rfl (globs_of hL) chargeDries_abs hval0 hW (fun l hl => by
    match l, hl with
    | [d1], _ => rfl)
theorem chargeDries_row : Rows.ChargeDriesSaid :=
  OpenClaim.holds_of_wide 4 Tryz.f4 rfl rfl rfl rfl rfl rfl rfl ⟨rfl, rfl, rfl, rfl, rfl⟩ rfl rfl rfl rfl rfl (by kernel_rfl) Tryz.func4 (by kernel_rfl)
    (of_decide_eq_true (by kernel_rfl)) (by unfold Func.isWrapper; first | (rw [if_pos (by decide +kernel)]; kernel_rfl) | (rw [if_neg (by decide +kernel)]; exact ⟨rfl, rfl⟩))
    (fun os started H enc _ => chargeDries_lifted os started H enc)
theorem chargeDries_holds : Rows.ChargeDriesCardSaid :=
  Claim7.holds_tied_plain_at .later [] [.data] true (true, "d0ab229608141778d8c114aba6ef8a973e69bb2f0ede335e85522297487bb3ce") false
    chargeDries_row (fun _ h => by cases h) (by kernel_rfl) (fun _ h => by cases h) chargeDries_row_tie rfl ⟨rfl, rfl⟩ (by kernel_rfl) rfl
    (fun f fn hf hfn => by
      obtain rfl : f = 4 := Option.some.inj ((show Tryz.prog.funcNamed "sawmill/sawmilllaw40.ChargeDries" = some 4 by kernel_rfl).symm.trans hf) |>.symm
      obtain rfl : fn = Tryz.f4 := (Option.some.inj (Tryz.func4.symm.trans hfn)).symm
      exact ⟨by kernel_rfl, fun j t ht => by
        have hp : Tryz.f4.params = #[30] := rfl
        rw [hp] at ht
        have hm : t ∈ [30] := by simpa using Array.mem_of_getElem? ht
        have hall : ([30].all fun u => !Tryz.prog.wantsStandIn u) = true := by kernel_rfl
        exact (show Tryz.prog.wantsStandIn t = false by simpa using List.all_eq_true.1 hall t hm)⟩)
    (by kernel_rfl)
#print axioms chargeDries_holds
end Go.Proofs.YtdefohgkniglpaaGreatDoor
