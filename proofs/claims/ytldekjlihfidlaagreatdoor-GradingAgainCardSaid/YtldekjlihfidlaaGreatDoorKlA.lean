/-
  Schedules and species, run abstractly.
-/
import Derived.Test.YtldekjlihfidlaaGreatDoorKlM
namespace Go.Proofs.YtldekjlihfidlaaGreatDoor
set_option linter.unusedSimpArgs false
set_option linter.unusedVariables false
open Go Go.Abs
set_option maxHeartbeats 4000000
set_option maxRecDepth 100000
theorem numbers'_run (w : Spc) : F_wood_numbers [.agg (eS w)] = some (.agg [I w.green, I w.fast, I w.slow, I w.safe, I w.grad, I w.crack, I w.temp, I w.dep, I w.dens, I w.stiff, I w.loss, I w.shrink]) := by
  rw [F_wood_numbers_eq]; simp
theorem inRangeW_run (w : Spc) : F_wood_inRange [.agg (eS w)] = some (B (rangeW w)) := by
  have hn := numbers'_run w
  simp at hn
  rw [F_wood_inRange_eq]
  obtain ⟨m, hm⟩ := bigL_succ 13 (by omega)
  rw [hm]
  simp [hn]
  iterate 13 (rw [L_wood_inRange_succ, R_wood_inRange_eq]; simp)
  rw [Bool.eq_iff_iff]
  simp [rangeW]
theorem from34_run (a b c : Int) : F_ref34_from [I a, I b, I c] = some (B (decide (b ≤ a) && decide (a ≤ c))) := by
  rw [F_ref34_from_eq]; simp
theorem rangeR_run (w : Spc) : F_ref34_valid [.agg (eS w)] = some (B (rangeW w)) := by
  rw [F_ref34_valid_eq]
  simp (config := { maxSteps := 2000000 }) [from34_run]
  rw [Bool.eq_iff_iff]
  simp [rangeW]
  omega
theorem find0_run (nm : ByteArray) (d : D) (hd : d = .sl []) : F_wood_Find [d, S nm] = some (.tup [.agg [S ByteArray.empty, I 0, I 0, I 0, I 0, I 0, I 0, I 0, I 0, I 0, I 0, I 0, I 0], B false]) := by
  subst hd
  rw [F_wood_Find_eq]
  obtain ⟨m, hm⟩ := bigL_succ 1 (by omega)
  rw [hm]
  simp
  rw [L_wood_Find_succ, R_wood_Find_eq]
  simp
theorem wood_run (w : Spc) : F_wood_Check [.sl [eS w]] = some (I (checkW w)) := by
  have h1 := inRangeW_run w
  have h2 := find0_run w.name _ rfl
  simp at h1 h2
  rw [F_wood_Check_eq]
  obtain ⟨m, hm⟩ := bigL_succ 2 (by omega)
  rw [hm]
  simp
  rw [L_wood_Check_succ, R_wood_Check_eq]
  unfold checkW
  cases hn : isNm w.name
  · simp [isName_run, hn]
  · cases hr : rangeW w
    · simp [isName_run, hn, h1, h2, hr]
    · simp [isName_run, hn, h1, h2, hr]
      rw [L_wood_Check_succ, R_wood_Check_eq]
      simp
theorem rwood_run (w : Spc) : F_ref34_Check [.sl [eS w]] = some (I (checkW w)) := by
  have h1 := rangeR_run w
  simp at h1
  rw [F_ref34_Check_eq]
  obtain ⟨m, hm⟩ := bigL_succ 2 (by omega)
  rw [hm]
  simp
  rw [L_ref34_Check_succ, R_ref34_Check_eq]
  unfold checkW
  cases hn : isNm w.name
  · simp [rname_run, hn]
  · cases hr : rangeW w
    · simp [rname_run, hn, h1, hr]
      rw [hm, L_ref34_Check_succ, R_ref34_Check_eq]
      simp [h1, hr]
    · simp [rname_run, hn, h1, hr]
      rw [hm, L_ref34_Check_succ, R_ref34_Check_eq]
      simp [h1, hr]
      rw [L_ref34_Check_succ, R_ref34_Check_eq]
      simp
end Go.Proofs.YtldekjlihfidlaaGreatDoor
