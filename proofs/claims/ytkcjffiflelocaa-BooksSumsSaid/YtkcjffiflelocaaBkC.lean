/-
  The books' tests of volumes and balances, run abstractly.
-/
import Derived.Test.YtkcjffiflelocaaBkB
namespace Go.Proofs.Ytkcjffiflelocaa
open Go Go.Abs
set_option maxHeartbeats 4000000
set_option maxRecDepth 100000

def okV : List Int → Bool
  | [] => true
  | n :: r => decide (0 ≤ n) && decide (n ≤ 72057594037927936) && okV r
def sumW : Int → List Int → Int
  | s, [] => s
  | s, n :: r => sumW (IntKind.i64.wrap (s + n)) r

theorem vols_loop (l : List Int) (hb : l.length ≤ 9223372036854775807) : ∀ (n i : Nat) (s : Int) (d0 d2 d5 : D), i ≤ l.length → l.length - i < n →
    L_books_areVolumes_int 3 n ⟨[(0, d0), (2, d2), (3, I s), (5, d5), (6, .sl (l.map fun n => [I n])), (7, I l.length), (8, I i)], []⟩ =
      some (if okV (l.drop i) = true then (.ex 0, ⟨[(0, .any), (2, .any), (3, I (sumW s (l.drop i))), (5, .any), (6, .any), (7, .any), (8, .any)], []⟩)
        else (.ret, ⟨[(0, .any), (2, B false), (3, .any), (5, .any), (6, .any), (7, .any), (8, .any)], []⟩))
  | 0, i, _, _, _, _, _, hn => by omega
  | n + 1, i, s, d0, d2, d5, hi, hn => by
    rw [L_books_areVolumes_int_succ, R_books_areVolumes_int_eq]
    by_cases h : i < l.length
    · have h1 : (l.map fun n => [I n])[i]? = some [I l[i]] := by simp [h]
      have h3 : (i : Int) < l.length := by omega
      have hw := wrapN (n := i) (by omega)
      have hd : l.drop i = l[i] :: l.drop (i + 1) := List.drop_eq_getElem_cons h
      have ho : okV (l.drop i) = (decide (0 ≤ l[i]) && decide (l[i] ≤ 72057594037927936) && okV (l.drop (i + 1))) := by rw [hd]; rfl
      have hs : sumW s (l.drop i) = sumW (IntKind.i64.wrap (s + l[i])) (l.drop (i + 1)) := by rw [hd]; rfl
      rw [ho, hs]
      by_cases hq : l[i] < 0
      · have hq3 : ¬ 0 ≤ l[i] := by omega
        simp [h1, h3, hq, hq3, hw]
      · have hq3 : 0 ≤ l[i] := by omega
        by_cases hq2 : 72057594037927936 < l[i]
        · have hq4 : ¬ l[i] ≤ 72057594037927936 := by omega
          simp [h1, h3, hq, hq2, hq3, hq4, hw]
        · have hq4 : l[i] ≤ 72057594037927936 := by omega
          simp [h1, h3, hq, hq2, hq3, hq4, hw]
          exact vols_loop l hb n (i + 1) _ .any .any _ (by omega) (by omega)
    · have h3 : ¬ (i : Int) < l.length := by omega
      have h4 : l.drop i = [] := List.drop_of_length_le (by omega)
      simp only [h4, okV, sumW]
      simp [h3]
theorem vols_run (l : List Int) (hb : l.length ≤ 9223372036854775807) : F_books_areVolumes_int [.sl (l.map fun n => [I n])] = some (B (okV l && decide (sumW 0 l ≤ 72057594037927936))) := by
  rw [F_books_areVolumes_int_eq]
  have hbig := bigL_ge
  have ih := fun d0 d2 d5 => vols_loop l hb bigL 0 0 d0 d2 d5 (by omega) (by omega)
  by_cases ho : okV l = true
  · simp [ho] at ih
    simp [ih, ho]
  · simp [ho] at ih
    simp [ih, ho]
theorem vols1_run (a : Int) : F_books_areVolumes_int [.sl [[I a]]] = some (B (okV [a] && decide (sumW 0 [a] ≤ 72057594037927936))) := vols_run [a] (by simp)
theorem vols2_run (a b : Int) : F_books_areVolumes_int [.sl [[I a], [I b]]] = some (B (okV [a, b] && decide (sumW 0 [a, b] ≤ 72057594037927936))) := vols_run [a, b] (by simp)
theorem vols3_run (a b c : Int) : F_books_areVolumes_int [.sl [[I a], [I b], [I c]]] = some (B (okV [a, b, c] && decide (sumW 0 [a, b, c] ≤ 72057594037927936))) := vols_run [a, b, c] (by simp)
theorem volume_run (n : Int) : F_ref52_volume [I n] = some (B (decide (0 ≤ n) && decide (n ≤ 72057594037927936))) := by
  rw [F_ref52_volume_eq]
  by_cases h : 0 ≤ n <;> simp [h]
/-- Whether a number can be a part of a yield. -/
def fit (n : Int) : Bool := decide (0 ≤ n) && decide (n ≤ 2305843009213693952)
theorem fit_iff (n : Int) : fit n = true ↔ 0 ≤ n ∧ n ≤ 2305843009213693952 := by simp [fit]
theorem fits_run (n : Int) : F_ref22_fits [I n] = some (B (fit n)) := by
  rw [F_ref22_fits_eq]
  by_cases h : 0 ≤ n <;> simp [h, fit]
/-- Whether the parts of a yield are numbers that can be added, and add up. -/
def bal (l b c d : Int) : Bool := fit l && fit b && fit c && fit d && decide (l = b + c + d)

theorem ref_balanced_run (l b c d v : Int) : F_ref22_Balanced [.agg [I l, I b, I c, I d, I v]] = some (B (bal l b c d)) := by
  rw [F_ref22_Balanced_eq]
  by_cases h1 : fit l = true
  · by_cases h2 : fit b = true
    · by_cases h3 : fit c = true
      · by_cases h4 : fit d = true
        · simp [fits_run, h1, h2, h3, h4, bal]
          rw [fit_iff] at h1 h2 h3 h4
          rw [wrap64 (n := l - b) (by omega) (by omega), wrap64 (by omega) (by omega)]
          rw [Bool.eq_iff_iff]
          simp
          omega
        · simp [fits_run, h1, h2, h3, h4, bal]
      · simp [fits_run, h1, h2, h3, bal]
    · simp [fits_run, h1, h2, bal]
  · simp [fits_run, h1, bal]

def okF : List Int → Bool
  | [] => true
  | n :: r => fit n && okF r
theorem bal_loop (l : List Int) (hl : l.length = 4) (cs : List D) : ∀ (n i : Nat) (d0 d2 d4 : D), i ≤ 4 → 4 - i < n →
    L_yield_Balanced 2 n ⟨[(0, d0), (1, .ptr 1 0), (2, d2), (4, d4), (13, .agg (l.map I)), (14, I i)], [(1, .box 23 cs)]⟩ =
      some (if okF (l.drop i) = true then (.ex 0, ⟨[(0, .any), (1, .ptr 1 0), (2, .any), (4, .any), (13, .any), (14, .any)], [(1, .box 23 cs)]⟩)
        else (.ret, ⟨[(0, .any), (1, .any), (2, B false), (4, .any), (13, .any), (14, .any)], []⟩))
  | 0, i, _, _, _, _, hn => by omega
  | n + 1, i, d0, d2, d4, hi, hn => by
    rw [L_yield_Balanced_succ, R_yield_Balanced_eq]
    by_cases h : i < 4
    · have h1 : (l.map I)[i]? = some (I (l[i]'(by omega))) := by simp [hl, h]
      have h3 : (i : Int) < 4 := by omega
      have hw := wrapN (n := i) (by omega)
      have hd : l.drop i = l[i]'(by omega) :: l.drop (i + 1) := List.drop_eq_getElem_cons (by omega)
      have ho : okF (l.drop i) = (fit (l[i]'(by omega)) && okF (l.drop (i + 1))) := by rw [hd]; rfl
      rw [ho]
      by_cases hq : l[i] < 0
      · have hq3 : ¬ 0 ≤ l[i] := by omega
        simp [h1, h3, hq, hq3, hw, hl, h, fit]
      · have hq3 : 0 ≤ l[i] := by omega
        by_cases hq2 : 2305843009213693952 < l[i]
        · have hq4 : ¬ l[i] ≤ 2305843009213693952 := by omega
          simp [h1, h3, hq, hq2, hq3, hq4, hw, hl, h, fit]
        · have hq4 : l[i] ≤ 2305843009213693952 := by omega
          simp [h1, h3, hq, hq2, hq3, hq4, hw, hl, h, fit]
          exact bal_loop l hl cs n (i + 1) .any .any _ (by omega) (by omega)
    · have h3 : ¬ (i : Int) < 4 := by omega
      have h4 : l.drop i = [] := List.drop_of_length_le (by omega)
      simp only [h4, okF]
      simp [h3]
theorem balanced_run (l b c d v : Int) : F_yield_Balanced [.agg [I l, I b, I c, I d, I v]] = some (B (bal l b c d)) := by
  rw [F_yield_Balanced_eq]
  have hbig := bigL_ge
  have ih := fun d0 d2 d4 => bal_loop [l, b, c, d] rfl [I l, I b, I c, I d, I v] bigL 0 d0 d2 d4 (by omega) (by omega)
  by_cases ho : okF [l, b, c, d] = true
  · simp [ho] at ih
    simp [ih]
    simp [okF, fit_iff] at ho
    have h1 : fit l = true := by rw [fit_iff]; omega
    have h2 : fit b = true := by rw [fit_iff]; omega
    have h3 : fit c = true := by rw [fit_iff]; omega
    have h4 : fit d = true := by rw [fit_iff]; omega
    simp only [bal, h1, h2, h3, h4, Bool.true_and]
    rw [wrap64 (n := b + c) (by omega) (by omega), wrap64 (by omega) (by omega)]
    rw [Bool.eq_iff_iff]
    simp
  · simp [ho] at ih
    simp [ih]
    simp [okF] at ho
    simp only [bal]
    by_cases h1 : fit l = true <;> by_cases h2 : fit b = true <;> by_cases h3 : fit c = true <;> simp_all

end Go.Proofs.Ytkcjffiflelocaa
