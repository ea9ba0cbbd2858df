/-
  The statement BooksSums, run abstractly: it returns true for every two yields.
-/
import Derived.Test.YtkcjffiflelocaaBkH
namespace Go.Proofs.Ytkcjffiflelocaa
open Go Go.Abs
set_option maxHeartbeats 4000000
set_option maxRecDepth 100000

theorem amt_nz (k n : Int) (x a : ByteArray) (r : List (ByteArray × Int)) (hk : IntKind.i64.wrap k = k) : amt k (nz ((x, n) :: r)) a = amt (if x = a then IntKind.i64.wrap (k + n) else k) (nz r) a := by
  by_cases hn : n = 0
  · subst hn
    have e : nz ((x, 0) :: r) = nz r := by simp [nz]
    rw [e, Int.add_zero, hk]
    split <;> rfl
  · have e : nz ((x, n) :: r) = (x, n) :: nz r := by simp [nz, hn]
    rw [e, amt_cons]
theorem amt_nz_nil (k : Int) (a : ByteArray) : amt k (nz []) a = k := rfl
/-- What the postings of a yield say about an account. -/
theorem amt_pick (l b c d : Int) (hl : IntKind.i64.wrap (-l) = -l) (hb : IntKind.i64.wrap b = b) (hc : IntKind.i64.wrap c = c) (hd : IntKind.i64.wrap d = d) (i : Nat) (hi : i < 8) :
    amt 0 (pick true [0, -l, b, 0, c, d, 0, 0]) (accs[i]'hi) = [0, -l, b, 0, c, d, 0, 0][i]'hi := by
  have hz : IntKind.i64.wrap 0 = 0 := by decide
  have e : pick true [0, -l, b, 0, c, d, 0, 0] = nz [(sForest, 0), (sLogs, -l), (sGreen, b), (sDry, 0), (sChips, c), (sDust, d), (sShipped, 0), (sSold, 0)] := rfl
  rw [e]
  match i, hi with
  | 0, _ => simp [amt_nz, amt_nz_nil, hz, hl, hb, hc, hd, accs, sForest, sLogs, sGreen, sDry, sChips, sDust, sShipped, sSold]
  | 1, _ => simp [amt_nz, amt_nz_nil, hz, hl, hb, hc, hd, accs, sForest, sLogs, sGreen, sDry, sChips, sDust, sShipped, sSold]
  | 2, _ => simp [amt_nz, amt_nz_nil, hz, hl, hb, hc, hd, accs, sForest, sLogs, sGreen, sDry, sChips, sDust, sShipped, sSold]
  | 3, _ => simp [amt_nz, amt_nz_nil, hz, hl, hb, hc, hd, accs, sForest, sLogs, sGreen, sDry, sChips, sDust, sShipped, sSold]
  | 4, _ => simp [amt_nz, amt_nz_nil, hz, hl, hb, hc, hd, accs, sForest, sLogs, sGreen, sDry, sChips, sDust, sShipped, sSold]
  | 5, _ => simp [amt_nz, amt_nz_nil, hz, hl, hb, hc, hd, accs, sForest, sLogs, sGreen, sDry, sChips, sDust, sShipped, sSold]
  | 6, _ => simp [amt_nz, amt_nz_nil, hz, hl, hb, hc, hd, accs, sForest, sLogs, sGreen, sDry, sChips, sDust, sShipped, sSold]
  | 7, _ => simp [amt_nz, amt_nz_nil, hz, hl, hb, hc, hd, accs, sForest, sLogs, sGreen, sDry, sChips, sDust, sShipped, sSold]

theorem sums_loop (p q r : List (ByteArray × Int)) (hp : p.length ≤ 9223372036854775807) (hq : q.length ≤ 9223372036854775807) (hr : r.length ≤ 9223372036854775807)
    (hs : ∀ (i : Nat) (hi : i < 8), amt 0 r (accs[i]'hi) = IntKind.i64.wrap (amt 0 p (accs[i]'hi) + amt 0 q (accs[i]'hi))) : ∀ (n i : Nat) (s : St), i ≤ 8 → 8 - i < n →
    headOf (an_law52_BooksSums.loops.lookup 11) s = ⟨[(0, .any), (1, .any), (2, .any), (3, .any), (4, .any), (5, .own true (Es p)), (6, .any), (7, .own true (Es q)), (8, .any), (9, .any), (10, .any), (11, .own true (Es r)), (12, .any), (13, .own true (accs.map fun a => [S a])), (14, I i)], []⟩ →
    L_law52_BooksSums 11 n s = some (.ex 0, ⟨[(0, .any), (1, .any), (2, .any), (3, .any), (4, .any), (5, .any), (6, .any), (7, .any), (8, .any), (9, .any), (10, .any), (11, .any), (12, .any), (13, .any), (14, .any)], []⟩)
  | 0, i, _, _, hn, _ => by omega
  | n + 1, i, s, hi, hn, hh => by
    rw [L_law52_BooksSums_succ, R_law52_BooksSums_eq, hh]
    have ha : accs.length = 8 := rfl
    by_cases h : i < 8
    · have h1 : (accs.map fun a => [S a])[i]? = some [S (accs[i]'(by omega))] := by simp [ha, h]
      have h3 : (i : Int) < 8 := by omega
      have hw := wrapN (n := i) (by omega)
      have e1 := amount_run p (accs[i]'(by omega)) hp
      have e2 := amount_run q (accs[i]'(by omega)) hq
      have e3 := amount_run r (accs[i]'(by omega)) hr
      have e4 : amt 0 r (accs[i]'(by omega)) = IntKind.i64.wrap (amt 0 p (accs[i]'(by omega)) + amt 0 q (accs[i]'(by omega))) := hs i h
      simp [h1, h3, hw, ha, h, e1, e2, e3, e4]
      refine sums_loop p q r hp hq hr hs n (i + 1) _ (by omega) (by omega) ?_
      simp
    · have h3 : ¬ (i : Int) < 8 := by omega
      simp [h3, ha]
theorem sums_run (a0 a1 a2 a3 a4 b0 b1 b2 b3 b4 : Int) : F_law52_BooksSums [.agg (Y a0 a1 a2 a3 a4), .agg (Y b0 b1 b2 b3 b4)] = some (B true) := by
  rw [F_law52_BooksSums_eq]
  have hbig := bigL_ge
  have ha := add_run a0 a1 a2 a3 a4 b0 b1 b2 b3 b4
  by_cases h1 : sawOk a0 a1 a2 a3 = true
  · by_cases h2 : sawOk b0 b1 b2 b3 = true
    · by_cases h3 : (vy a0 a1 a2 a3 a4 && vy b0 b1 b2 b3 b4) = true
      · simp only [h3, if_true] at ha
        by_cases h4 : 72057594037927936 < a0 + b0
        · simp [sawn_run, h1, h2, ha, h4, sawE, awake_run]
        · have h5 : sawOk (a0 + b0) (a1 + b1) (a2 + b2) (a3 + b3) = true := by
            simp [sawOk, bal_iff] at h1 h2 ⊢
            omega
          have k1 := h1
          have k2 := h2
          simp [sawOk, bal_iff] at k1 k2
          have il := fun s => sums_loop (pick true [0, -a0, a1, 0, a2, a3, 0, 0]) (pick true [0, -b0, b1, 0, b2, b3, 0, 0]) (pick true [0, -(a0 + b0), a1 + b1, 0, a2 + b2, a3 + b3, 0, 0])
            (pick_le _ _) (pick_le _ _) (pick_le _ _) (by
              intro i hi
              rw [amt_pick a0 a1 a2 a3 (wrap64 (by omega) (by omega)) (wrap64 (by omega) (by omega)) (wrap64 (by omega) (by omega)) (wrap64 (by omega) (by omega)) i hi,
                amt_pick b0 b1 b2 b3 (wrap64 (by omega) (by omega)) (wrap64 (by omega) (by omega)) (wrap64 (by omega) (by omega)) (wrap64 (by omega) (by omega)) i hi,
                amt_pick (a0 + b0) (a1 + b1) (a2 + b2) (a3 + b3) (wrap64 (by omega) (by omega)) (wrap64 (by omega) (by omega)) (wrap64 (by omega) (by omega)) (wrap64 (by omega) (by omega)) i hi]
              have w0 := wrap64 (n := -a0 + -b0) (by omega) (by omega)
              have w1 := wrap64 (n := a1 + b1) (by omega) (by omega)
              have w2 := wrap64 (n := a2 + b2) (by omega) (by omega)
              have w3 := wrap64 (n := a3 + b3) (by omega) (by omega)
              match i, hi with
              | 0, _ => simp
              | 1, _ => simp [w0]; omega
              | 2, _ => simp [w1]
              | 3, _ => simp
              | 4, _ => simp [w2]
              | 5, _ => simp [w3]
              | 6, _ => simp
              | 7, _ => simp) bigL 0 s (by omega) (by omega)
          simp at il
          simp [sawn_run, h1, h2, ha, h4, h5, sawE, awake_run, il, accounts_run]
      · simp only [h3] at ha
        simp [sawn_run, h1, h2, ha, sawE, awake_run]
    · simp only [Y] at ha
      by_cases h3 : (vy a0 a1 a2 a3 a4 && vy b0 b1 b2 b3 b4) = true <;> simp only [h3] at ha <;> simp [sawn_run, h1, h2, ha, sawE, awake_run]
  · by_cases h3 : (vy a0 a1 a2 a3 a4 && vy b0 b1 b2 b3 b4) = true <;> simp only [h3] at ha <;> simp [sawn_run, h1, ha, sawE, awake_run]
end Go.Proofs.Ytkcjffiflelocaa
