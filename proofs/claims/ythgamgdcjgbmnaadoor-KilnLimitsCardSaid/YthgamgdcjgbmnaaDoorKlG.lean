/-
  KilnBegins and KilnNone, run abstractly.
-/
import Derived.Test.YthgamgdcjgbmnaaDoorKlF
namespace Go.Proofs.YthgamgdcjgbmnaaDoor
set_option linter.unusedSimpArgs false
set_option linter.unusedVariables false
open Go Go.Abs
set_option maxHeartbeats 8000000
set_option maxRecDepth 100000
theorem none_law (f : List Int) : F_law38_KilnNone [.sl (f.map eI)] = some (B true) := by
  rw [F_law38_KilnNone_eq]
  have t := nilTick_run f
  simp [t, nilDone_run, nilClimate_run, nilStage_run, nilTicks_run, nilItems_run, nilMean_run, awakeK_run, eqD, eqFs]
theorem begins_law (nm : ByteArray) (ramp : Int) (g : List Stg) (w : Spc) (l : List Itm) : F_law38_KilnBegins [.agg (eCase nm ramp g w l)] = some (B true) := by
  rw [F_law38_KilnBegins_eq]
  have hl := light_run nm ramp g w l
  simp at hl
  cases hL : lightM nm g w l
  · rw [hL] at hl
    simp [hl, awakeK_run]
  · rw [hL] at hl
    have hb : l.length ≤ 1000000 := by
      simp [lightM] at hL
      omega
    by_cases hc : checkK nm ramp g w l = 0
    · have h1 := begunGood_run nm ramp g w l hc
      have iv := inv_new hc
      have h3 := is_run (newK nm ramp g w l) iv.some (by have := iv.many; omega) iv.stage
      have hr := rnewGood_run nm ramp g w l hc
      simp [newK] at h1 hr h3
      simp [hl, h1, hr, h3, awakeK_run]
    · have h1 := begunBad_run nm ramp g w l hb hc
      have hr := rnewBad_run nm ramp g w l hc
      simp at h1 hr
      simp [hl, h1, hr, hc, awakeK_run]
end Go.Proofs.YthgamgdcjgbmnaaDoor
