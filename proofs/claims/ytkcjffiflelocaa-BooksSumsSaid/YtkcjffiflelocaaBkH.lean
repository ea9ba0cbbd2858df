/-
  The sum of two yields, run abstractly.
-/
import Derived.Test.YtkcjffiflelocaaBkF
namespace Go.Proofs.Ytkcjffiflelocaa
open Go Go.Abs
set_option maxHeartbeats 4000000
set_option maxRecDepth 100000

abbrev Y (a b c d e : Int) : List D := [I a, I b, I c, I d, I e]
theorem add_in (l : List Int) (hl : l.length = 4) (a0 a1 a2 a3 a4 b0 b1 b2 b3 b4 e0 e1 e2 e3 e4 j : Int) (xs : List D) : ∀ (n i : Nat) (d0 d1 d5 d9 : D), i ≤ 4 → 4 - i < n →
    L_yield_Add 5 n ⟨[(0, d0), (1, d1), (2, .ptr 2 0), (3, .ptr 3 0), (4, .ptr 4 0), (5, d5), (7, .ptr 7 0), (9, d9), (12, .agg xs), (13, I j), (24, .agg (l.map I)), (25, I i)], [(2, .box 23 (Y a0 a1 a2 a3 a4)), (3, .box 23 (Y b0 b1 b2 b3 b4)), (4, .box 23 (Y 0 0 0 0 0)), (7, .box 23 (Y e0 e1 e2 e3 e4))]⟩ =
      some (if okF (l.drop i) = true then (.ex 2, ⟨[(0, .any), (1, .any), (2, .ptr 2 0), (3, .ptr 3 0), (4, .ptr 4 0), (5, .any), (7, .ptr 7 0), (9, .any), (12, .agg xs), (13, I j), (24, .any), (25, .any)], [(2, .box 23 (Y a0 a1 a2 a3 a4)), (3, .box 23 (Y b0 b1 b2 b3 b4)), (4, .box 23 (Y 0 0 0 0 0)), (7, .box 23 (Y e0 e1 e2 e3 e4))]⟩)
        else (.ret, ⟨[(0, .any), (1, .any), (2, .any), (3, .any), (4, .ptr 4 0), (5, I 9), (7, .any), (9, .any), (12, .any), (13, .any), (24, .any), (25, .any)], [(4, .box 23 (Y 0 0 0 0 0))]⟩))
  | 0, i, _, _, _, _, _, hn => by omega
  | n + 1, i, d0, d1, d5, d9, hi, hn => by
    rw [L_yield_Add_succ, R_yield_Add_eq]
    by_cases h : i < 4
    · have h1 : (l.map I)[i]? = some (I (l[i]'(by omega))) := by simp [hl, h]
      have h3 : (i : Int) < 4 := by omega
      have hw := wrapN (n := i) (by omega)
      have hd : l.drop i = l[i]'(by omega) :: l.drop (i + 1) := List.drop_eq_getElem_cons (by omega)
      have ho : okF (l.drop i) = (fit (l[i]'(by omega)) && okF (l.drop (i + 1))) := by rw [hd]; rfl
      rw [ho]
      by_cases hq : l[i] < 0
      · have hq3 : ¬ 0 ≤ l[i] := by omega
        simp [h1, h3, hq, hq3, hl, h, fit]
      · have hq3 : 0 ≤ l[i] := by omega
        by_cases hq2 : 2305843009213693952 < l[i]
        · have hq4 : ¬ l[i] ≤ 2305843009213693952 := by omega
          simp [h1, h3, hq, hq2, hq4, hl, h, fit]
        · have hq4 : l[i] ≤ 2305843009213693952 := by omega
          simp [h1, h3, hq, hq2, hq3, hq4, hw, hl, h, fit]
          exact add_in l hl a0 a1 a2 a3 a4 b0 b1 b2 b3 b4 e0 e1 e2 e3 e4 j xs n (i + 1) .any .any .any _ (by omega) (by omega)
    · have h3 : ¬ (i : Int) < 4 := by omega
      have h4 : l.drop i = [] := List.drop_of_length_le (by omega)
      simp only [h4, okF]
      simp [h3]
/-- Whether a yield can be added. -/
def vy (a b c d e : Int) : Bool := okF [a, b, c, d] && decide (-2305843009213693952 ≤ e) && decide (e ≤ 2305843009213693952)
theorem add_run (a0 a1 a2 a3 a4 b0 b1 b2 b3 b4 : Int) : F_yield_Add [.agg (Y a0 a1 a2 a3 a4), .agg (Y b0 b1 b2 b3 b4)] =
    some (if (vy a0 a1 a2 a3 a4 && vy b0 b1 b2 b3 b4) = true then .tup [.agg (Y (a0 + b0) (a1 + b1) (a2 + b2) (a3 + b3) (a4 + b4)), I 0] else .tup [.agg (Y 0 0 0 0 0), I 9]) := by
  rw [F_yield_Add_eq]
  have hbig := bigL_ge
  obtain ⟨m, hm⟩ := bigL_succ 3 (by decide)
  have i1 := fun xs d0 d1 d5 d9 => add_in [a0, a1, a2, a3] rfl a0 a1 a2 a3 a4 b0 b1 b2 b3 b4 a0 a1 a2 a3 a4 0 xs bigL 0 d0 d1 d5 d9 (by omega) (by omega)
  have i2 := fun xs d0 d1 d5 d9 => add_in [b0, b1, b2, b3] rfl a0 a1 a2 a3 a4 b0 b1 b2 b3 b4 b0 b1 b2 b3 b4 1 xs bigL 0 d0 d1 d5 d9 (by omega) (by omega)
  have e : L_yield_Add 2 bigL = L_yield_Add 2 (m + 3) := by rw [← hm]
  by_cases h1 : okF [a0, a1, a2, a3] = true
  · simp [h1] at i1
    by_cases h2 : a4 < -2305843009213693952
    · have h2' : ¬ -2305843009213693952 ≤ a4 := by omega
      simp [e, L_yield_Add_succ, R_yield_Add_eq, i1, h1, h2, h2', vy]
    · have h2' : -2305843009213693952 ≤ a4 := by omega
      by_cases h3 : 2305843009213693952 < a4
      · have h3' : ¬ a4 ≤ 2305843009213693952 := by omega
        simp [e, L_yield_Add_succ, R_yield_Add_eq, i1, h1, h2, h2', h3, h3', vy]
      · have h3' : a4 ≤ 2305843009213693952 := by omega
        by_cases k1 : okF [b0, b1, b2, b3] = true
        · simp [k1] at i2
          by_cases k2 : b4 < -2305843009213693952
          · have k2' : ¬ -2305843009213693952 ≤ b4 := by omega
            simp [e, L_yield_Add_succ, R_yield_Add_eq, i1, i2, h1, h2, h2', h3, h3', k1, k2, k2', vy]
          · have k2' : -2305843009213693952 ≤ b4 := by omega
            by_cases k3 : 2305843009213693952 < b4
            · have k3' : ¬ b4 ≤ 2305843009213693952 := by omega
              simp [e, L_yield_Add_succ, R_yield_Add_eq, i1, i2, h1, h2, h2', h3, h3', k1, k2, k2', k3, k3', vy]
            · have k3' : b4 ≤ 2305843009213693952 := by omega
              have h4 := h1
              have k4 := k1
              simp [okF, fit_iff] at h4 k4
              have w0 := wrap64 (n := a0 + b0) (by omega) (by omega)
              have w1 := wrap64 (n := a1 + b1) (by omega) (by omega)
              have w2 := wrap64 (n := a2 + b2) (by omega) (by omega)
              have w3 := wrap64 (n := a3 + b3) (by omega) (by omega)
              have w4 := wrap64 (n := a4 + b4) (by omega) (by omega)
              simp [e, L_yield_Add_succ, R_yield_Add_eq, i1, i2, h1, h2, h2', h3, h3', k1, k2, k2', k3, k3', vy, w0, w1, w2, w3, w4]
        · simp [k1] at i2
          simp [e, L_yield_Add_succ, R_yield_Add_eq, i1, i2, h1, h2, h2', h3, h3', k1, vy]
  · simp [h1] at i1
    simp [e, L_yield_Add_succ, R_yield_Add_eq, i1, h1, vy]
end Go.Proofs.Ytkcjffiflelocaa
