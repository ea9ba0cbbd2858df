/-
  The statement BooksMoves, run abstractly: it returns true for every number.
-/
import Derived.Test.YtkcjffiflelocaaBkF
namespace Go.Proofs.Ytkcjffiflelocaa
open Go Go.Abs
set_option maxHeartbeats 4000000
set_option maxRecDepth 100000

theorem moves_loop (k : Int) : ∀ (n i : Nat) (d2 : D), i ≤ 8 → 8 - i < n →
    L_law52_BooksMoves 5 n ⟨[(0, I k), (2, d2), (3, .own true (accs.map fun a => [S a])), (4, .own true (accs.map fun a => [S a])), (5, I i)], []⟩ = some (.ex 0, ⟨[(0, I k), (2, .any), (3, .any), (4, .any), (5, .any)], []⟩)
  | 0, i, _, _, hn => by omega
  | n + 1, i, d2, hi, hn => by
    rw [L_law52_BooksMoves_succ, R_law52_BooksMoves_eq]
    have ha : accs.length = 8 := rfl
    by_cases h : i < 8
    · have h1 : (accs.map fun a => [S a])[i]? = some [S (accs[i]'(by omega))] := by simp [ha, h]
      have h3 : (i : Int) < 8 := by omega
      have hw := wrapN (n := i) (by omega)
      simp [h1, h3, hw, ha, h]
      exact moves_loop k n (i + 1) .any (by omega) (by omega)
    · have h3 : ¬ (i : Int) < 8 := by omega
      simp [h3, ha]
theorem moves_run (k : Int) : F_law52_BooksMoves [I k] = some (B true) := by
  rw [F_law52_BooksMoves_eq]
  have hbig := bigL_ge
  have ih := fun d => moves_loop k bigL 0 d (by omega) (by omega)
  simp at ih
  have ha : accs.length = 8 := rfl
  have q1 := same_refl _ (pick_le (okV [k]) [-k, k, 0, 0, 0, 0, 0, 0])
  have q2 := same_refl _ (pick_le (okV [k]) [0, 0, -k, k, 0, 0, 0, 0])
  have q3 := same_refl _ (pick_le (okV [k]) [0, 0, 0, -k, 0, 0, k, 0])
  simp [accounts_run, ref_accounts_run, ih, ha, scanned_run, ref_scanned_run, dried_run, ref_dried_run, shipped_run, ref_shipped_run, q1, q2, q3, awake_run]
end Go.Proofs.Ytkcjffiflelocaa
