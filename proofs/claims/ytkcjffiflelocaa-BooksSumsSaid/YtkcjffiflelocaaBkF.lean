/-
  The three statements about the books, run abstractly: each returns true for every input.
-/
import Derived.Test.YtkcjffiflelocaaBkE
namespace Go.Proofs.Ytkcjffiflelocaa
open Go Go.Abs
set_option maxHeartbeats 4000000
set_option maxRecDepth 100000

theorem same_refl (l : List (ByteArray × Int)) (h : l.length ≤ 9223372036854775807) : F_ref52_Same [.sl (Es l), .sl (Es l)] = some (B true) := by
  rw [same_run l l h]
  simp
theorem same_lit (l m : List (ByteArray × Int)) (h : l.length ≤ 9223372036854775807) (e : l = m) : F_ref52_Same [.sl (Es l), .sl (Es m)] = some (B true) := by
  subst e
  exact same_refl l h
theorem awake_run : F_law52_awake [] = some (B true) := by
  rw [F_law52_awake_eq]
  have h1 := sawn_run 100 60 40 0 0
  have h2 := sawn_run 100 60 41 0 0
  have h3 := recut_run true 50 7 3
  have h4 := sold_run 0 0
  have h5 := sold_run 5 2
  have h6 := scanned_run 120000000
  have e1 : sawOk 100 60 40 0 = true := by decide
  have e2 : sawOk 100 60 41 0 = false := by decide
  have e3 : vol3 50 7 3 = true := by rw [vol3_iff]; decide
  have e4 : vol2 0 0 = true := by rw [vol2_iff]; decide
  have e5 : vol2 5 2 = true := by rw [vol2_iff]; decide
  have e6 : okV [120000000] = true := by decide
  have q1 := same_refl [(sLogs, -100), (sGreen, 60), (sChips, 40)] (by simp)
  have q2 := same_refl [(sDry, -10), (sChips, 7), (sDust, 3)] (by simp)
  have q3 := same_refl [(sForest, -120000000), (sLogs, 120000000)] (by simp)
  simp [e1, e2, e3, e4, e5, e6, sawE, pick, nz, accs, cutV, sForest, sLogs, sGreen, sDry, sChips, sDust, sShipped, sSold] at h1 h2 h3 h4 h5 h6 q1 q2 q3
  simp [h1, h2, h3, h4, h5, h6, q1, q2, q3, accounts_run, accs]

theorem cuts_run (l b c d v : Int) (k : Bool) (x y z : Int) : F_law52_BooksCuts [.agg [I l, I b, I c, I d, I v], .agg [B k, I x, I y, I z]] = some (B true) := by
  rw [F_law52_BooksCuts_eq]
  have q1 := same_refl _ (pick_le (sawOk l b c d) [0, -l, b, 0, c, d, 0, 0])
  have q2 := same_refl _ (pick_le (vol3 x y z) (cutV k y z))
  have q3 := same_refl _ (pick_le (vol2 y z) [0, 0, 0, 0, -y, -z, 0, y + z])
  simp [sawn_run, ref_sawn_run, recut_run, ref_recut_run, sold_run, ref_sold_run, q1, q2, q3, awake_run]
end Go.Proofs.Ytkcjffiflelocaa
