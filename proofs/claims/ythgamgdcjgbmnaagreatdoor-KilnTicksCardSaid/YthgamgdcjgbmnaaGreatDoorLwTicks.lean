/-
  The statement KilnTicks, proved for every input.
-/
import Derived.Test.YthgamgdcjgbmnaaGreatDoorGen
import Derived.Test.YthgamgdcjgbmnaaGreatDoorKlS
import Derived.Test.YthgamgdcjgbmnaaGreatDoorAbsU
import Derived.ProofKit
import Derived.LaidMore
import Derived.OpenShut
import Derived.Stop.Joined
import Derived.SevenTiedAt
import Derived.Test.YthgamgdcjgbmnaaGreatDoorCards
import Derived.Test.YthgamgdcjgbmnaaGreatDoorTie
namespace Go.Proofs.YthgamgdcjgbmnaaGreatDoor
set_option linter.unusedSimpArgs false
set_option linter.unusedVariables false
open Go Go.Abs Go.ChangeShapes Go.WideShapes Go.ChangeAt Go.WideMaps Go.WideElems Go.RowKit
set_option maxRecDepth 100000
theorem door_met (os : Os) (args : Array Value) : laidMetH Tryz.prog [("sawmill/kiln.stillAir", Rows.laid_sawmill_kiln_stillAir)] ((World.doorLaid Tryz.prog 400 os).forCall (fun _ _ => 0) ⟨#[], args, []⟩).memory :=
  laidMetH_of_parts3 (fuel := 8) (laidMet_of_run' 8 (by kernel_rfl) (by kernel_rfl)) (by kernel_rfl) (by kernel_rfl)
theorem gStill : Tryz.prog.globalNamed "sawmill/kiln.stillAir" = some 0 := by kernel_rfl
theorem tStill : (Tryz.prog.globals[0]?).map (·.type) = some 93 := by kernel_rfl
theorem globs_of {W : World} (h : laidMetH Tryz.prog [("sawmill/kiln.stillAir", Rows.laid_sawmill_kiln_stillAir)] W) : Globs gl W (fun _ => True) (fun _ => False) := by
  rw [MakeChecks.laidMetH_plain _ _ _ (by kernel_rfl)] at h
  obtain ⟨ps, ⟨g0, t0, cs0, f0, p0, q0, hg0, ht0, hv0, hd0, _, _⟩, _, _⟩ := h
  obtain rfl := Option.some.inj (gStill.symm.trans hg0)
  obtain rfl := Option.some.inj (tStill.symm.trans ht0)
  have c1 : Tryz.prog.cellsOf 4 = 1 := by kernel_rfl
  obtain ⟨xs, m1, rfl, hx1, hlen, hn, hel⟩ := DataW.trod_array Tryz.underlying93 hd0
  have e0 := hel 0 (by decide)
  have e1 := hel 1 (by decide)
  have e2 := hel 2 (by decide)
  have e3 := hel 3 (by decide)
  simp only [Prod.mk.injEq, DataW.agg.injEq] at hx1
  match xs, hn, hx1, e0, e1, e2, e3 with
  | [x0, x1, x2, x3], _, hx1, e0, e1, e2, e3 =>
    simp only [List.map_cons, List.map_nil, List.cons.injEq, Rows.laid_sawmill_kiln_stillAir] at hx1
    obtain ⟨b0, a0, d0⟩ := DataW.trod_bool Tryz.underlying4 (show DataW.trod _ Tryz.prog W 0 _ false m1 4 _ = some x0 from e0)
    obtain ⟨b1, a1, d1⟩ := DataW.trod_bool Tryz.underlying4 (show DataW.trod _ Tryz.prog W 0 _ false m1 4 _ = some x1 from e1)
    obtain ⟨b2, a2, d2⟩ := DataW.trod_bool Tryz.underlying4 (show DataW.trod _ Tryz.prog W 0 _ false m1 4 _ = some x2 from e2)
    obtain ⟨b3, a3, d3⟩ := DataW.trod_bool Tryz.underlying4 (show DataW.trod _ Tryz.prog W 0 _ false m1 4 _ = some x3 from e3)
    rw [d0, d1, d2, d3] at hx1
    simp at hx1
    obtain ⟨⟨rfl, rfl, rfl, rfl⟩, _⟩ := hx1
    rw [c1] at a0 a1 a2 a3
    obtain ⟨cl⟩ := cs0
    have hcell := fun off => World.var?_cell hg0 hv0 off
    have hc4 : cl.length = 4 := by
      have : Tryz.prog.cellsOf 93 = 4 := by kernel_rfl
      simpa [this] using hlen
    match cl, hc4 with
    | [y0, y1, y2, y3], _ =>
      simp at a0 a1 a2 a3
      subst a0 a1 a2 a3
      intro g cs hg
      simp [gl] at hg
      obtain ⟨rfl, rfl⟩ := hg
      have hlt : 0 < W.heap.size := by
        have := hcell 0
        simp at this
        unfold World.cell? at this
        rcases Nat.eq_zero_or_pos W.heap.size with h0 | h0
        · rw [Array.getElem?_eq_none (by omega)] at this
          simp at this
        · exact h0
      refine .elt trivial hlt (by simp [isCell]) (fun j hj => ?_) (fun j d u hd hu => ?_)
      · have := hcell j
        have e : (Addr.mk 0 0 none).add j = ⟨0, j, none⟩ := by simp [Addr.add]; exact fun h => h.symm
        rw [e, this]
        match j, hj with
        | 0, _ => exact ⟨_, rfl, rfl⟩
        | 1, _ => exact ⟨_, rfl, rfl⟩
        | 2, _ => exact ⟨_, rfl, rfl⟩
        | 3, _ => exact ⟨_, rfl, rfl⟩
      · have := hcell j
        have e : (Addr.mk 0 0 none).add j = ⟨0, j, none⟩ := by simp [Addr.add]; exact fun h => h.symm
        rw [e, this] at hu
        match j, hd, hu with
        | 0, hd, hu => cases hd; cases hu; exact .x _
        | 1, hd, hu => cases hd; cases hu; exact .x _
        | 2, hd, hu => cases hd; cases hu; exact .x _
        | 3, hd, hu => cases hd; cases hu; exact .x _
end Go.Proofs.YthgamgdcjgbmnaaGreatDoor
namespace Go.Proofs.YthgamgdcjgbmnaaGreatDoor
open Go Go.Abs Go.ChangeShapes Go.WideShapes Go.ChangeAt Go.RowKit
set_option maxRecDepth 100000
set_option linter.unusedSimpArgs false
set_option linter.unusedVariables false
theorem kilnTicks_own : ownKnob Tryz.prog.godebug = none := by kernel_rfl
theorem kilnTicks_closed : okS Tryz.prog [29, 24, 9, 3, 22, 51, 26, 27, 55, 53, 30, 46] = true := by kernel_rfl
theorem kilnTicks_types : ∀ t ∈ Tryz.f3.params.toList, t ∈ [29, 24, 9, 3, 22, 51, 26, 27, 55, 53, 30, 46] ∧ Tryz.prog.readableRec t = true ∧ t < Tryz.prog.types.size := by
  have e : Tryz.f3.params.toList = [29, 30] := rfl
  rw [e]
  intro t ht
  simp at ht
  rcases ht with rfl | rfl
  · exact ⟨by simp, by kernel_rfl, by decide +kernel⟩
  · exact ⟨by simp, by kernel_rfl, by decide +kernel⟩
theorem kilnTicks_lifted (os : Os) (started : os.Started) (H : Type) (enc : TypeId × Value → H) :
    ReturnsInHanded {} Tryz.checked os 3 .any (fun w args => (Rows.kilnTicksSpec.pre enc Tryz.prog Tryz.f3 [] false w args ∧ laidMetH Tryz.prog [("sawmill/kiln.stillAir", Rows.laid_sawmill_kiln_stillAir)] w) ∧ sizedMet enc Tryz.prog Tryz.f3 (OpenSpec.ofChange Rows.kilnTicksSpec) false w args)
      (Rows.kilnTicksSpec.post enc Tryz.prog Tryz.f3 false true false false) := by
  refine returnsInHanded_of_change_and (C := Tryz.checked) (X := fun w _ => laidMetH Tryz.prog [("sawmill/kiln.stillAir", Rows.laid_sawmill_kiln_stillAir)] w) (fun _ _ _ hh h => h.of_heap hh) kilnTicks_own started (by kernel_rfl) Tryz.func3
    (ChangeSpec.witness_shaped (enc := enc) (C := Tryz.checked) (os := os) (X := fun w _ => laidMetH Tryz.prog [("sawmill/kiln.stillAir", Rows.laid_sawmill_kiln_stillAir)] w) false (World.doorLaid Tryz.prog 400 os) #[.agg #[.string ByteArray.empty, .int .i64 0, .slice none 0 0, .string ByteArray.empty, .int .i64 0, .int .i64 0, .int .i64 0, .int .i64 0, .int .i64 0, .int .i64 0, .int .i64 0, .int .i64 0, .int .i64 0, .int .i64 0, .int .i64 0, .int .i64 0, .slice none 0 0], .slice none 0 0] 8 rfl (World.shaped_of_RefB (by kernel_rfl) (by kernel_rfl)) (by kernel_rfl) (by kernel_rfl) (by kernel_rfl) (door_met os _)) ?_
  intro W base args ds gs before hval0 hW _ _ hL _
  exact law_calls laid kilnTicks_closed kilnTicks_types Tryz.underlying4 rfl rfl (globs_of hL) kilnTicks_abs hval0 hW (fun l hl => by
    match l, hl with
    | [d1, d2], _ => rfl)
theorem kilnTicks_row : Rows.KilnTicksSaid :=
  OpenClaim.holds_of_wide 3 Tryz.f3 rfl rfl rfl rfl rfl rfl rfl ⟨rfl, rfl, rfl, rfl, rfl⟩ rfl rfl rfl rfl rfl (by kernel_rfl) Tryz.func3 (by kernel_rfl)
    (of_decide_eq_true (by kernel_rfl)) (by unfold Func.isWrapper; first | (rw [if_pos (by decide +kernel)]; kernel_rfl) | (rw [if_neg (by decide +kernel)]; exact ⟨rfl, rfl⟩))
    (fun os started H enc _ => kilnTicks_lifted os started H enc)
theorem kilnTicks_holds : Rows.KilnTicksCardSaid :=
  Claim7.holds_tied_plain_at .later [] [.data] true (true, "e8e8a2d24cf23dfc3740c5a2afdd5708915a4680886931edd31cc50a26ebfa7a") false
    kilnTicks_row (fun _ h => by cases h) (by kernel_rfl) (fun _ h => by cases h) kilnTicks_row_tie rfl ⟨rfl, rfl⟩ (by kernel_rfl) rfl
    (fun f fn hf hfn => by
      obtain rfl : f = 3 := Option.some.inj ((show Tryz.prog.funcNamed "sawmill/sawmilllaw38.KilnTicks" = some 3 by kernel_rfl).symm.trans hf) |>.symm
      obtain rfl : fn = Tryz.f3 := (Option.some.inj (Tryz.func3.symm.trans hfn)).symm
      exact ⟨by kernel_rfl, fun j t ht => by
        have hp : Tryz.f3.params = #[29, 30] := rfl
        rw [hp] at ht
        have hm : t ∈ [29, 30] := by simpa using Array.mem_of_getElem? ht
        have hall : ([29, 30].all fun u => !Tryz.prog.wantsStandIn u) = true := by kernel_rfl
        exact (show Tryz.prog.wantsStandIn t = false by simpa using List.all_eq_true.1 hall t hm)⟩)
    (by kernel_rfl)
#print axioms kilnTicks_holds
end Go.Proofs.YthgamgdcjgbmnaaGreatDoor
