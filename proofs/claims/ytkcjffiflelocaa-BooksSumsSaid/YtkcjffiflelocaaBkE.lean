/-
  The books of sawing, recutting and selling, run abstractly: both the given program and the reference give the same postings.
-/
import Derived.Test.YtkcjffiflelocaaBkD
namespace Go.Proofs.Ytkcjffiflelocaa
open Go Go.Abs
set_option maxHeartbeats 4000000
set_option maxRecDepth 100000

theorem bal_iff (l b c d : Int) : bal l b c d = true ↔ (0 ≤ l ∧ l ≤ 2305843009213693952) ∧ (0 ≤ b ∧ b ≤ 2305843009213693952) ∧ (0 ≤ c ∧ c ≤ 2305843009213693952) ∧ (0 ≤ d ∧ d ≤ 2305843009213693952) ∧ l = b + c + d := by
  simp [bal, fit, and_assoc]
/-- Whether a yield can be booked. -/
def sawOk (l b c d : Int) : Bool := bal l b c d && decide (l ≤ 72057594037927936)
def sawE (k : Bool) : Int := if k = true then 0 else 22
theorem sawn_run (l b c d v : Int) : F_books_Sawn [.agg [I l, I b, I c, I d, I v]] = some (.tup [.own true (Es (pick (sawOk l b c d) [0, -l, b, 0, c, d, 0, 0])), I (sawE (sawOk l b c d))]) := by
  rw [F_books_Sawn_eq]
  by_cases h : bal l b c d = true
  · by_cases h2 : 72057594037927936 < l
    · have h3 : ¬ l ≤ 72057594037927936 := by omega
      simp [balanced_run, h, h2, h3, sawOk, pick, sawE]
    · have h3 : l ≤ 72057594037927936 := by omega
      have h' := (bal_iff l b c d).1 h
      have hw := wrap64 (n := -l) (by omega) (by omega)
      simp [balanced_run, h, h2, h3, postings_run, sawOk, pick, sawE, hw]
  · simp [balanced_run, h, sawOk, pick, sawE]
theorem ref_sawn_run (l b c d v : Int) : F_ref52_Sawn [.agg [I l, I b, I c, I d, I v]] = some (.tup [.own true (Es (pick (sawOk l b c d) [0, -l, b, 0, c, d, 0, 0])), I (sawE (sawOk l b c d))]) := by
  rw [F_ref52_Sawn_eq]
  by_cases h : bal l b c d = true
  · by_cases h2 : 72057594037927936 < l
    · have h3 : ¬ l ≤ 72057594037927936 := by omega
      simp [ref_balanced_run, h, h2, h3, sawOk, pick, sawE]
    · have h3 : l ≤ 72057594037927936 := by omega
      have h' := (bal_iff l b c d).1 h
      have hw := wrap64 (n := -l) (by omega) (by omega)
      have hb := wrap64 (n := b) (by omega) (by omega)
      have hc := wrap64 (n := c) (by omega) (by omega)
      have hd := wrap64 (n := d) (by omega) (by omega)
      have ho := ordered_run [(sLogs, -l), (sGreen, b), (sChips, c), (sDust, d)] (by simp)
      simp [sLogs, sGreen, sChips, sDust] at ho
      simp [ref_balanced_run, h, h2, h3, sawOk, pick, sawE, hw, ho]
      congr 2
      simp [accs, amt_cons, amt_nil, hw, hb, hc, hd, sForest, sLogs, sGreen, sDry, sChips, sDust, sShipped, sSold]
  · simp [ref_balanced_run, h, sawOk, pick, sawE]

/-- Whether three, or two, numbers and their sum are volumes. -/
def vol3 (a b c : Int) : Bool := okV [a, b, c] && decide (sumW 0 [a, b, c] ≤ 72057594037927936)
def vol2 (a b : Int) : Bool := okV [a, b] && decide (sumW 0 [a, b] ≤ 72057594037927936)
theorem vol3_iff (a b c : Int) : vol3 a b c = true ↔ (0 ≤ a ∧ a ≤ 72057594037927936) ∧ (0 ≤ b ∧ b ≤ 72057594037927936) ∧ (0 ≤ c ∧ c ≤ 72057594037927936) ∧ a + b + c ≤ 72057594037927936 := by
  rw [vol3, Bool.and_eq_true, decide_eq_true_eq, show sumW 0 [a, b, c] = IntKind.i64.wrap (IntKind.i64.wrap (IntKind.i64.wrap (0 + a) + b) + c) from rfl]
  simp only [okV, Bool.and_true, Bool.and_eq_true, decide_eq_true_eq]
  constructor
  · rintro ⟨h, hs⟩
    rw [wrap64 (n := 0 + a) (by omega) (by omega), wrap64 (n := 0 + a + b) (by omega) (by omega), wrap64 (by omega) (by omega)] at hs
    omega
  · rintro h
    rw [wrap64 (n := 0 + a) (by omega) (by omega), wrap64 (n := 0 + a + b) (by omega) (by omega), wrap64 (by omega) (by omega)]
    omega
theorem vol2_iff (a b : Int) : vol2 a b = true ↔ (0 ≤ a ∧ a ≤ 72057594037927936) ∧ (0 ≤ b ∧ b ≤ 72057594037927936) ∧ a + b ≤ 72057594037927936 := by
  rw [vol2, Bool.and_eq_true, decide_eq_true_eq, show sumW 0 [a, b] = IntKind.i64.wrap (IntKind.i64.wrap (0 + a) + b) from rfl]
  simp only [okV, Bool.and_true, Bool.and_eq_true, decide_eq_true_eq]
  constructor
  · rintro ⟨h, hs⟩
    rw [wrap64 (n := 0 + a) (by omega) (by omega), wrap64 (by omega) (by omega)] at hs
    omega
  · rintro h
    rw [wrap64 (n := 0 + a) (by omega) (by omega), wrap64 (by omega) (by omega)]
    omega
theorem vols3 (a b c : Int) : F_books_areVolumes_int [.sl [[I a], [I b], [I c]]] = some (B (vol3 a b c)) := vols3_run a b c
theorem vols2 (a b : Int) : F_books_areVolumes_int [.sl [[I a], [I b]]] = some (B (vol2 a b)) := vols2_run a b
/-- What a cut takes from the green boards, or the dry ones. -/
def cutV (dry : Bool) (b c : Int) : List Int := if dry = true then [0, 0, 0, -(b + c), b, c, 0, 0] else [0, 0, -(b + c), 0, b, c, 0, 0]
theorem recut_run (dry : Bool) (a b c : Int) : F_books_Recut [B dry, I a, I b, I c] = some (.own true (Es (pick (vol3 a b c) (cutV dry b c)))) := by
  rw [F_books_Recut_eq]
  by_cases h : vol3 a b c = true
  · have h' := (vol3_iff a b c).1 h
    have hw := wrap64 (n := b + c) (by omega) (by omega)
    have hw2 := wrap64 (n := -(b + c)) (by omega) (by omega)
    cases dry <;> simp [vols3, h, postings_run, hw, hw2, pick, cutV]
  · cases dry <;> simp [vols3, h, pick]
theorem sold_run (a b : Int) : F_books_Sold [I a, I b] = some (.own true (Es (pick (vol2 a b) [0, 0, 0, 0, -a, -b, 0, a + b]))) := by
  rw [F_books_Sold_eq]
  by_cases h : vol2 a b = true
  · have h' := (vol2_iff a b).1 h
    have hw := wrap64 (n := a + b) (by omega) (by omega)
    have hw2 := wrap64 (n := -a) (by omega) (by omega)
    have hw3 := wrap64 (n := -b) (by omega) (by omega)
    simp [vols2, h, postings_run, hw, hw2, hw3, pick]
  · simp [vols2, h, pick]
/-- Whether a number is a volume. -/
def vl (n : Int) : Bool := decide (0 ≤ n) && decide (n ≤ 72057594037927936)
theorem vl_iff (n : Int) : vl n = true ↔ 0 ≤ n ∧ n ≤ 72057594037927936 := by simp [vl]
theorem vl_run (n : Int) : F_ref52_volume [I n] = some (B (vl n)) := volume_run n
theorem ref_recut_run (dry : Bool) (a b c : Int) : F_ref52_Recut [B dry, I a, I b, I c] = some (.own true (Es (pick (vol3 a b c) (cutV dry b c)))) := by
  rw [F_ref52_Recut_eq]
  by_cases h1 : vl a = true
  · by_cases h2 : vl b = true
    · by_cases h3 : vl c = true
      · have h1' := (vl_iff _).1 h1
        have h2' := (vl_iff _).1 h2
        have h3' := (vl_iff _).1 h3
        have hw := wrap64 (n := 72057594037927936 - b) (by omega) (by omega)
        have hw1 := wrap64 (n := 72057594037927936 - c) (by omega) (by omega)
        have hw2 := wrap64 (n := a + b) (by omega) (by omega)
        by_cases h4 : 72057594037927936 - b < a
        · have hv : vol3 a b c = false := by
            rw [← Bool.not_eq_true, vol3_iff]; omega
          simp [vl_run, h1, h2, h3, hw, h4, pick, hv]
        · by_cases h5 : 72057594037927936 - c < a + b
          · have hv : vol3 a b c = false := by
              rw [← Bool.not_eq_true, vol3_iff]; omega
            simp [vl_run, h1, h2, h3, hw, hw1, hw2, h4, h5, pick, hv]
          · have hv : vol3 a b c = true := by
              rw [vol3_iff]; omega
            have hw3 := wrap64 (n := -b) (by omega) (by omega)
            have hw4 := wrap64 (n := -b - c) (by omega) (by omega)
            have hb := wrap64 (n := b) (by omega) (by omega)
            have hc := wrap64 (n := c) (by omega) (by omega)
            have e : -b - c = -(b + c) := by omega
            have hw5 := wrap64 (n := -(b + c)) (by omega) (by omega)
            cases dry
            · have ho := ordered_run [(sGreen, -b - c), (sChips, b), (sDust, c)] (by simp)
              simp [sGreen, sChips, sDust] at ho
              simp [vl_run, h1, h2, h3, hw, hw1, hw2, h4, h5, pick, hv, hw3, hw4, ho]
              congr 2
              simp [accs, amt_cons, amt_nil, hw4, hb, hc, sForest, sLogs, sGreen, sDry, sChips, sDust, sShipped, sSold, cutV, e, hw5]
            · have ho := ordered_run [(sDry, -b - c), (sChips, b), (sDust, c)] (by simp)
              simp [sDry, sChips, sDust] at ho
              simp [vl_run, h1, h2, h3, hw, hw1, hw2, h4, h5, pick, hv, hw3, hw4, ho]
              congr 2
              simp [accs, amt_cons, amt_nil, hw4, hb, hc, sForest, sLogs, sGreen, sDry, sChips, sDust, sShipped, sSold, cutV, e, hw5]
      · have hv : vol3 a b c = false := by
          rw [← Bool.not_eq_true, vol3_iff]; rw [vl_iff] at h3; omega
        simp [vl_run, h1, h2, h3, pick, hv]
    · have hv : vol3 a b c = false := by
        rw [← Bool.not_eq_true, vol3_iff]; rw [vl_iff] at h2; omega
      simp [vl_run, h1, h2, pick, hv]
  · have hv : vol3 a b c = false := by
      rw [← Bool.not_eq_true, vol3_iff]; rw [vl_iff] at h1; omega
    simp [vl_run, h1, pick, hv]
theorem ref_sold_run (a b : Int) : F_ref52_Sold [I a, I b] = some (.own true (Es (pick (vol2 a b) [0, 0, 0, 0, -a, -b, 0, a + b]))) := by
  rw [F_ref52_Sold_eq]
  by_cases h1 : vl a = true
  · by_cases h2 : vl b = true
    · have h1' := (vl_iff _).1 h1
      have h2' := (vl_iff _).1 h2
      have hw := wrap64 (n := 72057594037927936 - b) (by omega) (by omega)
      by_cases h4 : 72057594037927936 - b < a
      · have hv : vol2 a b = false := by
          rw [← Bool.not_eq_true, vol2_iff]; omega
        simp [vl_run, h1, h2, hw, h4, pick, hv]
      · have hv : vol2 a b = true := by
          rw [vol2_iff]; omega
        have hw2 := wrap64 (n := -a) (by omega) (by omega)
        have hw3 := wrap64 (n := -b) (by omega) (by omega)
        have hw4 := wrap64 (n := a + b) (by omega) (by omega)
        have ho := ordered_run [(sChips, -a), (sDust, -b), (sSold, a + b)] (by simp)
        simp [sChips, sDust, sSold] at ho
        simp [vl_run, h1, h2, hw, h4, pick, hv, hw2, hw3, hw4, ho]
        congr 2
        simp [accs, amt_cons, amt_nil, hw2, hw3, hw4, sForest, sLogs, sGreen, sDry, sChips, sDust, sShipped, sSold]
    · have hv : vol2 a b = false := by
        rw [← Bool.not_eq_true, vol2_iff]; rw [vl_iff] at h2; omega
      simp [vl_run, h1, h2, pick, hv]
  · have hv : vol2 a b = false := by
      rw [← Bool.not_eq_true, vol2_iff]; rw [vl_iff] at h1; omega
    simp [vl_run, h1, pick, hv]
end Go.Proofs.Ytkcjffiflelocaa
