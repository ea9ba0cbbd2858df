/-
  The statement MoistSums, run abstractly.
-/
import Derived.Test.YtmnipfincjpofaaMoD
namespace Go.Proofs.Ytmnipfincjpofaa
set_option linter.unusedSimpArgs false
set_option linter.unusedVariables false
open Go Go.Abs
set_option maxHeartbeats 2000000
set_option maxRecDepth 100000
theorem sums_law (b : Brd) : F_law36_MoistSums [.agg (eB b)] = some (B true) := by
  rw [F_law36_MoistSums_eq]
  have h1 := ltick_run b
  have h2 := checkM_run b.cell
  have m0 := mean_run b.cell
  have g0 := grad_run b.cell
  have c0 := cracks_run b.cell b.w
  have m1 := mean_run (tickB b)
  have g1 := grad_run (tickB b)
  have c1 := cracks_run (tickB b) b.w
  simp at h1 h2 m0 g0 c0 m1 g1 c1
  by_cases hk : checkM b.cell = 0
  · have hk' : checkM (tickB b) = 0 := by
      cases hc : comp b.cell b.w b.th b.t b.d
      · have e : tickB b = b.cell := tick_not hc b.fan
        rw [e]; exact hk
      · exact (ticked (comp_iff.1 hc) b.fan).ok
    obtain ⟨r1, r2, r3⟩ := checkM_zero.1 hk'
    have q1 : btw (mean (tickB b)) (tickB b).s (tickB b).c = true := by
      rw [mean, if_pos hk']
      refine btw_iff.2 ?_
      omega
    have gr : grad (tickB b) = (tickB b).c - (tickB b).s := by rw [grad, if_pos hk']
    have new : tickB b ≠ b.cell → (tickB b).st = if 1099511627776 < b.cell.st + (if 0 < grad (tickB b) - b.w.safe then grad (tickB b) - b.w.safe else 0) then 1099511627776 else b.cell.st + (if 0 < grad (tickB b) - b.w.safe then grad (tickB b) - b.w.safe else 0) := by
      intro hne
      cases hc : comp b.cell b.w b.th b.t b.d
      · exact absurd (tick_not hc b.fan) hne
      · rw [gr]; exact (ticked (comp_iff.1 hc) b.fan).new
    have gr2 := grad_rng (tickB b)
    generalize tickB b = y at *
    simp [h1, h2, hk, m1, g1, c1, btw_run, q1, awakeM_run]
    have hbc := (checkM_zero.1 hk).2.2
    have last : b.w.safe < 0 ∨ 20000 < b.w.safe ∨ (y.s = b.cell.s ∧ y.c = b.cell.c ∧ y.st = b.cell.st) ∨ y.st = (if 1099511627776 < IntKind.i64.wrap (b.cell.st + (if 0 < IntKind.i64.wrap (grad y - b.w.safe) then IntKind.i64.wrap (grad y - b.w.safe) else 0)) then 1099511627776 else IntKind.i64.wrap (b.cell.st + (if 0 < IntKind.i64.wrap (grad y - b.w.safe) then IntKind.i64.wrap (grad y - b.w.safe) else 0))) := by
      by_cases s1 : b.w.safe < 0
      · exact .inl s1
      · by_cases s2 : 20000 < b.w.safe
        · exact .inr (.inl s2)
        · by_cases s3 : y = b.cell
          · exact .inr (.inr (.inl (by rw [s3]; exact ⟨rfl, rfl, rfl⟩)))
          · have w1 : IntKind.i64.wrap (grad y - b.w.safe) = grad y - b.w.safe := wrap64 (by omega) (by omega)
            have w2 : IntKind.i64.wrap (b.cell.st + (if 0 < grad y - b.w.safe then grad y - b.w.safe else 0)) = b.cell.st + (if 0 < grad y - b.w.safe then grad y - b.w.safe else 0) := by split <;> exact wrap64 (by omega) (by omega)
            exact .inr (.inr (.inr (by rw [w1, w2]; exact new s3)))
    by_cases k1 : 1 ≤ b.w.crack
    · by_cases k2 : b.w.crack ≤ 1099511627776
      · rw [if_pos k1, if_pos k2]
        have ec : cracks y b.w = y.st / b.w.crack := by rw [cracks, if_pos hk', if_neg (by omega)]
        have m1 := Int.ediv_mul_le y.st (b := b.w.crack) (by omega)
        have m2 := Int.lt_ediv_add_one_mul_self y.st (b := b.w.crack) (by omega)
        rw [Int.add_mul, Int.one_mul] at m2
        have m3 : 0 ≤ y.st / b.w.crack * b.w.crack := Int.mul_nonneg (Int.ediv_nonneg (by omega) (by omega)) (by omega)
        have w1 : IntKind.i64.wrap (y.st / b.w.crack * b.w.crack) = y.st / b.w.crack * b.w.crack := wrap64 (by omega) (by omega)
        have w2 : IntKind.i64.wrap (y.st - y.st / b.w.crack * b.w.crack) = y.st - y.st / b.w.crack * b.w.crack := wrap64 (by omega) (by omega)
        rw [ec, w1, w2]
        exact ⟨m1, by omega, last⟩
      · rw [if_pos k1, if_neg k2]; exact last
    · rw [if_neg k1]; exact last
  · have e1 : mean b.cell = 0 := by rw [mean, if_neg hk]
    have e2 : grad b.cell = 0 := by rw [grad, if_neg hk]
    have e3 : cracks b.cell b.w = 0 := by rw [cracks, if_neg hk]
    rw [e1] at m0
    rw [e2] at g0
    rw [e3] at c0
    simp [h1, h2, hk, m0, g0, c0, awakeM_run]
end Go.Proofs.Ytmnipfincjpofaa
