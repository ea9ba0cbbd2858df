/-
  The statement AirReaches, run abstractly.
-/
import Derived.Test.YtmnipfincjpofaaArD
namespace Go.Proofs.Ytmnipfincjpofaa
set_option linter.unusedSimpArgs false
set_option linter.unusedVariables false
open Go Go.Abs
set_option maxHeartbeats 2000000
set_option maxRecDepth 100000
theorem step_step {a b k r : Int} (hk : 0 ≤ k) (hr : 0 ≤ r) : step (step a b k) b r = step a b (k + r) := by
  unfold step clampN
  repeat' split
  all_goals omega
theorem step_zero (a b : Int) : step a b 0 = a := by
  unfold step clampN
  repeat' split
  all_goals omega
/-- How far two numbers are apart. -/
def dist (a b : Int) : Int := if a < b then b - a else a - b
theorem step_eq {a b k : Int} (hk : 0 ≤ k) : step a b k = b ↔ dist a b ≤ k := by
  unfold step clampN dist
  constructor
  · intro h
    repeat' split at h
    all_goals (split <;> omega)
  · intro h
    repeat' split at h
    all_goals (repeat' split)
    all_goals omega
theorem step_rng {a b k hi : Int} (ha : 0 ≤ a ∧ a ≤ hi) (hb : 0 ≤ b ∧ b ≤ hi) (hk : 0 ≤ k) : 0 ≤ step a b k ∧ step a b k ≤ hi := by
  unfold step clampN
  repeat' split
  all_goals omega
def far (nt tt nd td : Int) : Int := if dist nt tt < dist nd td then dist nd td else dist nt tt
theorem far_eq (nt tt nd td : Int) : (if (if (if nt - tt < tt - nt then tt - nt else nt - tt) < nd - td then nd - td else if nt - tt < tt - nt then tt - nt else nt - tt) < td - nd then td - nd else if (if nt - tt < tt - nt then tt - nt else nt - tt) < nd - td then nd - td else if nt - tt < tt - nt then tt - nt else nt - tt) = far nt tt nd td := by
  unfold far dist
  repeat' split
  all_goals omega
theorem reaches_loop {nt nd tt td ramp : Int} (hn : (0 ≤ nt ∧ nt ≤ 1200) ∧ (0 ≤ nd ∧ nd ≤ 400)) (ht : (0 ≤ tt ∧ tt ≤ 1200) ∧ (0 ≤ td ∧ td ≤ 400)) (hr : 10 ≤ ramp ∧ ramp ≤ 1200) (tk : Nat) (htk : (tk : Int) ≤ 1000) (hlt : ∀ i : Nat, i < tk → (i : Int) * ramp < far nt tt nd td) : ∀ (n i : Nat), i ≤ tk → tk - i < n →
    L_law35_AirReaches 7 n ⟨[(0, .any), (1, .any), (2, I ramp), (3, .any), (4, .ptr 4 0), (6, .any), (7, .any), (8, I tk), (9, .ptr 9 0), (10, I i)], [(4, .box 30 [I tt, I td]), (9, .box 30 [I (step nt tt (i * ramp)), I (step nd td (i * ramp))])]⟩ =
      some (.ex 0, ⟨[(0, .any), (1, .any), (2, I ramp), (3, .any), (4, .ptr 4 0), (6, .any), (7, .any), (8, .any), (9, .ptr 9 0), (10, .any)], [(4, .box 30 [I tt, I td]), (9, .box 30 [I (step nt tt (tk * ramp)), I (step nd td (tk * ramp))])]⟩)
  | 0, i, _, hm => by omega
  | n + 1, i, hi, hm => by
    rw [L_law35_AirReaches_succ, R_law35_AirReaches_eq]
    by_cases h : i < tk
    · have h3 : (i : Int) < tk := by omega
      have hw := wrapN (n := i) (by omega)
      have ih := reaches_loop hn ht hr tk htk hlt n (i + 1) (by omega) (by omega)
      have hk : 0 ≤ (i : Int) * ramp := Int.mul_nonneg (by omega) (by omega)
      have r1 := step_rng (k := i * ramp) hn.1 ht.1 hk
      have r2 := step_rng (k := i * ramp) hn.2 ht.2 hk
      have hx := next_run (step nt tt (i * ramp)) (step nd td (i * ramp)) tt td ramp [] (by simp)
      have e : ((i + 1 : Nat) : Int) * ramp = (i : Int) * ramp + ramp := by rw [Int.natCast_add, Int.add_mul]; simp
      have q1 : nextT (step nt tt (i * ramp)) tt ramp [] = step nt tt (i * ramp + ramp) := by
        rw [nextT, clampN_id r1.1 r1.2, clampN_id ht.1.1 ht.1.2, clampN_id (by omega) hr.2]
        exact step_step hk (by omega)
      have q2 : nextD (step nd td (i * ramp)) td ramp [] = step nd td (i * ramp + ramp) := by
        rw [nextD, clampN_id r2.1 r2.2, clampN_id ht.2.1 ht.2.2, clampN_id (by omega) hr.2]
        exact step_step hk (by omega)
      rw [q1, q2] at hx
      have hne : ¬ (step nt tt (i * ramp) = tt ∧ step nd td (i * ramp) = td) := by
        rw [step_eq hk, step_eq hk]
        have := hlt i h
        unfold far at this
        split at this <;> omega
      rw [e] at ih
      simp only [Int.natCast_add, Int.natCast_one] at ih
      simp at hx
      simp [h3, hw, hx, hne, ih]
    · have h3 : ¬ (i : Int) < tk := by omega
      have h4 : i = tk := by omega
      subst h4
      simp
theorem reaches_law (nt nd tt td ramp : Int) : F_law35_AirReaches [.agg [I nt, I nd], .agg [I tt, I td], I ramp] = some (B true) := by
  rw [F_law35_AirReaches_eq]
  by_cases c1 : checkC nt nd = 0
  · by_cases c2 : checkC tt td = 0
    · by_cases c3 : 10 ≤ ramp
      · by_cases c4 : 1200 < ramp
        · simp [rcheckC_run, c1, c2, c3, c4, awakeA_run]
        · obtain ⟨a1, a2, a3, a4⟩ := checkC_zero.1 c1
          obtain ⟨b1, b2, b3, b4⟩ := checkC_zero.1 c2
          have w1 : IntKind.i64.wrap (nt - tt) = nt - tt := wrap64 (by omega) (by omega)
          have w2 : IntKind.i64.wrap (tt - nt) = tt - nt := wrap64 (by omega) (by omega)
          have w3 : IntKind.i64.wrap (nd - td) = nd - td := wrap64 (by omega) (by omega)
          have w4 : IntKind.i64.wrap (td - nd) = td - nd := wrap64 (by omega) (by omega)
          have hfar : 0 ≤ far nt tt nd td ∧ far nt tt nd td ≤ 1200 := by
            unfold far dist
            repeat' split
            all_goals omega
          have hfe := far_eq nt tt nd td
          have w5 : IntKind.i64.wrap (far nt tt nd td + ramp) = far nt tt nd td + ramp := wrap64 (by omega) (by omega)
          have w6 : IntKind.i64.wrap (far nt tt nd td + ramp - 1) = far nt tt nd td + ramp - 1 := wrap64 (by omega) (by omega)
          have d0 : (far nt tt nd td + ramp - 1).tdiv ramp = (far nt tt nd td + ramp - 1) / ramp := Int.tdiv_eq_ediv_of_nonneg (by omega)
          have d1 : 0 ≤ (far nt tt nd td + ramp - 1) / ramp := Int.ediv_nonneg (by omega) (by omega)
          have d2 : (far nt tt nd td + ramp - 1) / ramp ≤ 400 := by
            have : (far nt tt nd td + ramp - 1) / ramp ≤ (far nt tt nd td + ramp - 1) / 10 := by
              exact Int.le_ediv_of_mul_le (by omega) (by
                have := Int.ediv_mul_le (far nt tt nd td + ramp - 1) (b := ramp) (by omega)
                have m := mul_le_l ((far nt tt nd td + ramp - 1) / ramp) c3 d1
                omega)
            omega
          have w7 : IntKind.i64.wrap ((far nt tt nd td + ramp - 1) / ramp) = (far nt tt nd td + ramp - 1) / ramp := wrap64 (by omega) (by omega)
          have dm1 := Int.ediv_mul_le (far nt tt nd td + ramp - 1) (b := ramp) (by omega)
          have dm2 := Int.lt_ediv_add_one_mul_self (far nt tt nd td + ramp - 1) (b := ramp) (by omega)
          rw [Int.add_mul, Int.one_mul] at dm2
          obtain ⟨tk, htk⟩ : ∃ tk : Nat, (tk : Int) = (far nt tt nd td + ramp - 1) / ramp := ⟨((far nt tt nd td + ramp - 1) / ramp).toNat, by omega⟩
          rw [← htk] at d0 d1 d2 w7 dm1 dm2
          have hlt : ∀ i : Nat, i < tk → (i : Int) * ramp < far nt tt nd td := by
            intro i hi
            have m := Int.mul_le_mul_of_nonneg_right (show ((i : Int) + 1) ≤ tk by omega) (show 0 ≤ ramp by omega)
            rw [Int.add_mul, Int.one_mul] at m
            omega
          have ih := reaches_loop ⟨⟨a1, a2⟩, a3, a4⟩ ⟨⟨b1, b2⟩, b3, b4⟩ ⟨c3, by omega⟩ tk (by omega) hlt bigL 0 (by omega) (by have := bigL_ge; omega)
          have hk : 0 ≤ (tk : Int) * ramp := Int.mul_nonneg (by omega) (by omega)
          have s1 : step nt tt (tk * ramp) = tt := (step_eq hk).2 (by
            have : dist nt tt ≤ far nt tt nd td := by unfold far; split <;> omega
            omega)
          have s2 : step nd td (tk * ramp) = td := (step_eq hk).2 (by
            have : dist nd td ≤ far nt tt nd td := by unfold far; split <;> omega
            omega)
          rw [s1, s2] at ih
          simp [step_zero] at ih
          have hx := next_run tt td tt td ramp [] (by simp)
          have q1 : nextT tt tt ramp [] = tt := by
            rw [nextT, clampN_id b1 b2, clampN_id (by omega) (by omega)]
            show step tt tt ramp = tt
            exact (step_eq (by omega)).2 (by unfold dist; split <;> omega)
          have q2 : nextD td td ramp [] = td := by
            rw [nextD, clampN_id b3 b4, clampN_id (by omega) (by omega)]
            show step td td ramp = td
            exact (step_eq (by omega)).2 (by unfold dist; split <;> omega)
          rw [q1, q2] at hx
          simp at hx
          have h5 : ¬ ramp = 0 := by omega
          simp [rcheckC_run, c1, c2, c3, c4, h5, w1, w2, w3, w4, hfe, w5, w6, d0, w7, ih, hx, awakeA_run]
      · simp [rcheckC_run, c1, c2, c3, awakeA_run]
    · simp [rcheckC_run, c1, c2, awakeA_run]
  · simp [rcheckC_run, c1, awakeA_run]
end Go.Proofs.Ytmnipfincjpofaa
