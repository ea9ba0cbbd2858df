/-
  Boxes of boards in the reference, run abstractly; lengths in a list.
-/
import Derived.Test.YtldekjlihfidlaaGreatDoorFtL
namespace Go.Proofs.YtldekjlihfidlaaGreatDoor
set_option linter.unusedSimpArgs false
set_option linter.unusedVariables false
open Go Go.Abs
set_option maxHeartbeats 8000000
set_option maxRecDepth 100000
theorem placed_run (xa xb ya yb za zb : Int) : F_ref30_Placed [.agg [I xa, I xb, I ya, I yb, I za, I zb]] = some (B (crossB xa xb && (crossB ya yb && alongB za zb))) := by
  rw [F_ref30_Placed_eq]
  have he := rempty_run xa xb ya yb za zb
  have i1 := within_run xa xb (-600) 600
  have i2 := within_run ya yb (-600) 600
  have i3 := within_run za zb 0 20000
  have key : (crossB xa xb && (crossB ya yb && alongB za zb)) = (!(decide (xb ≤ xa) || (decide (yb ≤ ya) || decide (zb ≤ za))) && ((decide (-600 ≤ xa) && (decide (xa ≤ 600) && (decide (-600 ≤ xb) && decide (xb ≤ 600)))) && ((decide (-600 ≤ ya) && (decide (ya ≤ 600) && (decide (-600 ≤ yb) && decide (yb ≤ 600)))) && (decide (0 ≤ za) && (decide (za ≤ 20000) && (decide (0 ≤ zb) && decide (zb ≤ 20000))))))) := by
    rw [Bool.eq_iff_iff]
    simp [crossB, alongB]
    omega
  rw [key]
  generalize (decide (xb ≤ xa) || (decide (yb ≤ ya) || decide (zb ≤ za))) = e at *
  generalize (decide (-600 ≤ xa) && (decide (xa ≤ 600) && (decide (-600 ≤ xb) && decide (xb ≤ 600)))) = b1 at *
  generalize (decide (-600 ≤ ya) && (decide (ya ≤ 600) && (decide (-600 ≤ yb) && decide (yb ≤ 600)))) = b2 at *
  generalize (decide (0 ≤ za) && (decide (za ≤ 20000) && (decide (0 ≤ zb) && decide (zb ≤ 20000)))) = b3 at *
  cases e <;> cases b1 <;> cases b2 <;> simp [he, i1, i2, i3]
theorem cross_bnd {a b : Int} (h : crossB a b = true) : IntKind.i64.wrap (b - a) = b - a ∧ 0 < b - a ∧ b - a ≤ 1200 := by
  simp [crossB] at h
  exact ⟨wrap64 (by omega) (by omega), by omega, by omega⟩
theorem along_bnd {a b : Int} (h : alongB a b = true) : IntKind.i64.wrap (b - a) = b - a ∧ 0 < b - a ∧ b - a ≤ 20000 := by
  simp [alongB] at h
  exact ⟨wrap64 (by omega) (by omega), by omega, by omega⟩
theorem box_bnd {b : Bd} (h : boxB b = true) : crossB b.xa b.xb = true ∧ crossB b.ya b.yb = true ∧ alongB b.za b.zb = true := by
  rw [boxB_eq] at h
  simpa using h
theorem vol_bnd {x y z : Int} (hx : 0 < x ∧ x ≤ 1200) (hy : 0 < y ∧ y ≤ 1200) (hz : 0 < z ∧ z ≤ 20000) : IntKind.i64.wrap (x * y) = x * y ∧ IntKind.i64.wrap (x * y * z) = x * y * z := by
  have h1 : x * y ≤ 1200 * 1200 := Int.mul_le_mul hx.2 hy.2 (by omega) (by omega)
  have h2 : 0 < x * y := Int.mul_pos hx.1 hy.1
  have h3 : x * y * z ≤ 1440000 * 20000 := Int.mul_le_mul (by omega) hz.2 (by omega) (by omega)
  have h4 : 0 < x * y * z := Int.mul_pos h2 hz.1
  exact ⟨wrap64 (by omega) (by omega), wrap64 (by omega) (by omega)⟩
theorem bvolume_run (b : Bd) : F_board_Volume [.agg (eBd b)] = some (I (volB b)) := by
  rw [F_board_Volume_eq]
  have h := isBox_run b.xa b.xb b.ya b.yb b.za b.zb
  rw [← boxB_eq] at h
  unfold volB
  cases hb : boxB b
  · simp [h, hb]
  · obtain ⟨h1, h2, h3⟩ := box_bnd hb
    have l1 := blength_run b.xa b.xb
    have l2 := blength_run b.ya b.yb
    have l3 := blength_run b.za b.zb
    obtain ⟨w1, p1⟩ := cross_bnd h1
    obtain ⟨w2, p2⟩ := cross_bnd h2
    obtain ⟨w3, p3⟩ := along_bnd h3
    obtain ⟨v1, v2⟩ := vol_bnd p1 p2 p3
    rw [w1] at l1
    rw [w2] at l2
    rw [w3] at l3
    simp [h, hb, l1, l2, l3, v1, v2]
theorem rvolume_run (b : Bd) : F_ref30_Volume [.agg (eBd b)] = some (I (volB b)) := by
  rw [F_ref30_Volume_eq]
  have h := placed_run b.xa b.xb b.ya b.yb b.za b.zb
  rw [← boxB_eq] at h
  unfold volB
  cases hb : boxB b
  · simp [h, hb]
  · obtain ⟨h1, h2, h3⟩ := box_bnd hb
    have l1 := rlength_run b.xa b.xb
    have l2 := rlength_run b.ya b.yb
    have l3 := rlength_run b.za b.zb
    obtain ⟨w1, p1⟩ := cross_bnd h1
    obtain ⟨w2, p2⟩ := cross_bnd h2
    obtain ⟨w3, p3⟩ := along_bnd h3
    obtain ⟨v1, v2⟩ := vol_bnd p1 p2 p3
    rw [w1] at l1
    rw [w2] at l2
    rw [w3] at l3
    simp [h, hb, l1, l2, l3, v1, v2]
theorem rfit_run (b : Bd) (p : Pd) (hb : boxB b = true) : F_ref26_Green [.agg (ePd p), .agg [I b.xa, I b.xb, I b.ya, I b.yb, I b.za, I b.zb]] = some (B (fitB b p)) := by
  rw [F_ref26_Green_eq]
  have hg := rgreenP_run p
  obtain ⟨h1, h2, h3⟩ := box_bnd hb
  obtain ⟨w1, p1⟩ := cross_bnd h1
  obtain ⟨w2, p2⟩ := cross_bnd h2
  unfold fitB
  generalize greenT p = t at *
  generalize greenW p = w at *
  simp at hg
  simp [hg, w1, w2]
  by_cases c : b.xb - b.xa = t <;> simp [c]
end Go.Proofs.YtldekjlihfidlaaGreatDoor
