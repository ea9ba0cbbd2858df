/-
  Boxes of boards, run abstractly.
-/
import Derived.Test.YtldekjlihfidlaaGreatDoorFtJ
import Derived.Test.YtldekjlihfidlaaGreatDoorFtK
namespace Go.Proofs.YtldekjlihfidlaaGreatDoor
set_option linter.unusedSimpArgs false
set_option linter.unusedVariables false
open Go Go.Abs
set_option maxHeartbeats 8000000
set_option maxRecDepth 100000
/-- Induction along a list that a loop goes through. -/
theorem lind {α : Type} (l : List α) (P : Nat → Nat → List α → Prop) (h0 : ∀ n i, l.drop i = [] → P (n + 1) i [])
    (h1 : ∀ n i x r, l.drop i = x :: r → i < l.length → P n (i + 1) r → P (n + 1) i (x :: r)) : ∀ (n i : Nat) (r : List α), l.drop i = r → r.length < n → P n i r := by
  intro n
  induction n with
  | zero => intro i r hr hn; omega
  | succ n ih =>
    intro i r hr hn
    cases r with
    | nil => exact h0 n i hr
    | cons x r =>
      obtain ⟨_, _, hr', hi⟩ := dc (enc := fun _ => []) hr
      exact h1 n i x r hr hi (ih (i + 1) r hr' (by simp at hn; omega))
def alongB (a b : Int) : Bool := decide (0 ≤ a ∧ b ≤ 20000 ∧ a < b)
def crossB (a b : Int) : Bool := decide (-600 ≤ a ∧ b ≤ 600 ∧ a < b)
theorem boxB_eq (b : Bd) : boxB b = (crossB b.xa b.xb && (crossB b.ya b.yb && alongB b.za b.zb)) := by
  unfold boxB crossB alongB
  simp only [Bool.decide_and]
theorem along_run (a b : Int) : F_board_isAlong [.agg [I a, I b]] = some (B (alongB a b)) := by
  rw [F_board_isAlong_eq]
  unfold alongB
  simp
theorem blength_run (a b : Int) : F_board_length [.agg [I a, I b]] = some (I (IntKind.i64.wrap (b - a))) := by
  rw [F_board_length_eq]
  simp
theorem rlength_run (a b : Int) : F_ref30_length [.agg [I a, I b]] = some (I (IntKind.i64.wrap (b - a))) := by
  rw [F_ref30_length_eq]
  simp
theorem binside_run (a b n : Int) : F_board_inside [.agg [I a, I b], I n] = some (B (insideB a b n)) := by
  rw [F_board_inside_eq]
  unfold insideB
  simp
theorem isMoist_run (n : Int) : F_board_isMoist [I n] = some (B (decide (0 ≤ n) && decide (n ≤ 20000))) := by
  rw [F_board_isMoist_eq]
  simp
theorem within_run (a b lo hi : Int) : F_ref30_within [.agg [I a, I b], I lo, I hi] = some (B (decide (lo ≤ a) && (decide (a ≤ hi) && (decide (lo ≤ b) && decide (b ≤ hi))))) := by
  rw [F_ref30_within_eq]
  simp
theorem isBox_run (xa xb ya yb za zb : Int) : F_board_isBox [.agg [I xa, I xb, I ya, I yb, I za, I zb]] = some (B (crossB xa xb && (crossB ya yb && alongB za zb))) := by
  rw [F_board_isBox_eq]
  obtain ⟨m, hm⟩ := bigL_succ 3 (by omega)
  rw [hm]
  have ha := along_run za zb
  simp [ha]
  iterate 3 (rw [L_board_isBox_succ, R_board_isBox_eq]; simp [ha])
  unfold crossB
  by_cases a1 : -600 ≤ xa ∧ xb ≤ 600 ∧ xa < xb
  · have a2 : ¬ xa < -600 := by omega
    have a3 : ¬ 600 < xb := by omega
    have a4 : ¬ xb ≤ xa := by omega
    by_cases b1 : -600 ≤ ya ∧ yb ≤ 600 ∧ ya < yb
    · have b2 : ¬ ya < -600 := by omega
      have b3 : ¬ 600 < yb := by omega
      have b4 : ¬ yb ≤ ya := by omega
      simp [a1, b1, a4, b4]
    · simp [a1, b1]
      omega
  · simp [a1]
    omega
end Go.Proofs.YtldekjlihfidlaaGreatDoor
