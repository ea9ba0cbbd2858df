/-
  The books' functions and the reference's, run abstractly: both give the same postings.
-/
import Derived.Test.YtkcjffiflelocaaBkC
namespace Go.Proofs.Ytkcjffiflelocaa
open Go Go.Abs
set_option maxHeartbeats 4000000
set_option maxRecDepth 100000

theorem okV1 (n : Int) : okV [n] = true ↔ 0 ≤ n ∧ n ≤ 72057594037927936 := by simp [okV]
theorem amt_nil (k : Int) (a : ByteArray) : amt k [] a = k := rfl
theorem amt_cons (k : Int) (p : ByteArray × Int) (l : List (ByteArray × Int)) (a : ByteArray) : amt k (p :: l) a = amt (if p.1 = a then IntKind.i64.wrap (k + p.2) else k) l a := rfl
def pick (b : Bool) (l : List Int) : List (ByteArray × Int) := if b = true then nz (accs.zip l) else []
theorem pick_le (b : Bool) (l : List Int) : (pick b l).length ≤ 9223372036854775807 := by
  unfold pick nz
  split
  · refine Nat.le_trans (List.length_filter_le _ _) ?_
    simp [accs]
    omega
  · simp

theorem move_run (n : Int) (a b : ByteArray) : F_ref52_move [I n, S a, S b] = some (.own true (Es (if okV [n] = true then nz (accs.map fun x => (x, amt 0 [(a, -n), (b, n)] x)) else []))) := by
  rw [F_ref52_move_eq]
  by_cases h : okV [n] = true
  · have h' := (okV1 n).1 h
    have hw2 := wrap64 (n := -n) (by omega) (by omega)
    have ho := ordered_run [(a, -n), (b, n)] (by simp)
    simp at ho
    simp [volume_run, h, h', hw2, ho]
  · have h' : (decide (0 ≤ n) && decide (n ≤ 72057594037927936)) = false := by
      rw [okV1] at h
      simp
      omega
    simp [volume_run, h, h']

theorem scanned_run (n : Int) : F_books_Scanned [I n] = some (.own true (Es (pick (okV [n]) [-n, n, 0, 0, 0, 0, 0, 0]))) := by
  rw [F_books_Scanned_eq]
  by_cases h : okV [n] = true
  · have h' := (okV1 n).1 h
    have hw := wrap64 (n := n) (by omega) (by omega)
    have hw2 := wrap64 (n := -n) (by omega) (by omega)
    simp [vols1_run, h, sumW, hw, hw2, h', postings_run, pick]
  · simp [vols1_run, h, pick]
theorem ref_scanned_run (n : Int) : F_ref52_Scanned [I n] = some (.own true (Es (pick (okV [n]) [-n, n, 0, 0, 0, 0, 0, 0]))) := by
  rw [F_ref52_Scanned_eq]
  have hm := move_run n sForest sLogs
  simp only [sForest, sLogs] at hm
  simp [hm]
  congr 1
  unfold pick
  by_cases h : okV [n] = true
  · have h' := (okV1 n).1 h
    have hw := wrap64 (n := n) (by omega) (by omega)
    have hw2 := wrap64 (n := -n) (by omega) (by omega)
    simp only [h, if_true]
    congr 1
    simp [accs, amt_cons, amt_nil, hw, hw2, sForest, sLogs, sGreen, sDry, sChips, sDust, sShipped, sSold]
  · simp [h]

theorem dried_run (n : Int) : F_books_Dried [I n] = some (.own true (Es (pick (okV [n]) [0, 0, -n, n, 0, 0, 0, 0]))) := by
  rw [F_books_Dried_eq]
  by_cases h : okV [n] = true
  · have h' := (okV1 n).1 h
    have hw := wrap64 (n := n) (by omega) (by omega)
    have hw2 := wrap64 (n := -n) (by omega) (by omega)
    simp [vols1_run, h, sumW, hw, hw2, h', postings_run, pick]
  · simp [vols1_run, h, pick]
theorem ref_dried_run (n : Int) : F_ref52_Dried [I n] = some (.own true (Es (pick (okV [n]) [0, 0, -n, n, 0, 0, 0, 0]))) := by
  rw [F_ref52_Dried_eq]
  have hm := move_run n sGreen sDry
  simp only [sGreen, sDry] at hm
  simp [hm]
  congr 1
  unfold pick
  by_cases h : okV [n] = true
  · have h' := (okV1 n).1 h
    have hw := wrap64 (n := n) (by omega) (by omega)
    have hw2 := wrap64 (n := -n) (by omega) (by omega)
    simp only [h, if_true]
    congr 1
    simp [accs, amt_cons, amt_nil, hw, hw2, sForest, sLogs, sGreen, sDry, sChips, sDust, sShipped, sSold]
  · simp [h]

theorem shipped_run (n : Int) : F_books_Shipped [I n] = some (.own true (Es (pick (okV [n]) [0, 0, 0, -n, 0, 0, n, 0]))) := by
  rw [F_books_Shipped_eq]
  by_cases h : okV [n] = true
  · have h' := (okV1 n).1 h
    have hw := wrap64 (n := n) (by omega) (by omega)
    have hw2 := wrap64 (n := -n) (by omega) (by omega)
    simp [vols1_run, h, sumW, hw, hw2, h', postings_run, pick]
  · simp [vols1_run, h, pick]
theorem ref_shipped_run (n : Int) : F_ref52_Shipped [I n] = some (.own true (Es (pick (okV [n]) [0, 0, 0, -n, 0, 0, n, 0]))) := by
  rw [F_ref52_Shipped_eq]
  have hm := move_run n sDry sShipped
  simp only [sDry, sShipped] at hm
  simp [hm]
  congr 1
  unfold pick
  by_cases h : okV [n] = true
  · have h' := (okV1 n).1 h
    have hw := wrap64 (n := n) (by omega) (by omega)
    have hw2 := wrap64 (n := -n) (by omega) (by omega)
    simp only [h, if_true]
    congr 1
    simp [accs, amt_cons, amt_nil, hw, hw2, sForest, sLogs, sGreen, sDry, sChips, sDust, sShipped, sSold]
  · simp [h]
end Go.Proofs.Ytkcjffiflelocaa
