/-
  The value of a grid of the program, run abstractly.
-/
import Derived.Test.YtgngoijehjphoaaCvC
namespace Go.Proofs.Ytgngoijehjphoaa
set_option linter.unusedSimpArgs false
set_option linter.unusedVariables false
open Go Go.Abs
set_option maxHeartbeats 2000000
set_option maxRecDepth 100000

/-- A good grid. -/
structure GoodG (g : G) : Prop where
  nx : g.xs ≠ []
  ny : g.ys ≠ []
  lx : g.xs.length ≤ 16
  ly : g.ys.length ≤ 16
  ax : axis g.xs = 0
  ay : axis g.ys = 0
  lv : g.vs.length = g.xs.length
  row : ∀ r ∈ g.vs, r.length = g.ys.length ∧ ∀ n ∈ r, inR n = true
theorem allR_iff : ∀ l : List Int, allR l = true ↔ ∀ n ∈ l, inR n = true
  | [] => by simp [allR]
  | n :: r => by
    rw [allR]
    cases h : inR n <;> simp [h, allR_iff r]
theorem rowsC_iff (m : Nat) : ∀ vs : List (List Int), rowsC m vs = 0 ↔ ∀ r ∈ vs, r.length = m ∧ ∀ n ∈ r, inR n = true
  | [] => by simp [rowsC]
  | r :: rs => by
    rw [rowsC]
    by_cases h1 : (r.length : Int) = m
    · by_cases h2 : allR r = true
      · rw [if_pos h1, if_pos h2, rowsC_iff m rs]
        rw [allR_iff] at h2
        simp
        exact fun _ => ⟨by omega, h2⟩
      · rw [if_pos h1, if_neg h2]
        rw [allR_iff] at h2
        simp
        intro _ h3
        exact absurd h3 h2
    · rw [if_neg h1]
      simp
      intro h2
      omega
theorem goodG_iff (g : G) : checkG g = 0 ↔ GoodG g := by
  unfold checkG
  constructor
  · intro h
    split at h
    · cases h
    split at h
    · cases h
    split at h
    · cases h
    split at h
    · cases h
    split at h
    · rename_i h5; exact absurd h h5
    split at h
    · rename_i h5; exact absurd h h5
    split at h
    · cases h
    rename_i a b c d e f k
    exact ⟨a, b, by omega, by omega, by simpa using e, by simpa using f, by omega, (rowsC_iff _ _).1 h⟩
  · intro h
    have := h.lx
    have := h.ly
    have := h.lv
    rw [if_neg h.nx, if_neg h.ny, if_neg (by omega), if_neg (by omega), if_neg (by simp [h.ax]), if_neg (by simp [h.ay]), if_neg (by omega)]
    exact (rowsC_iff _ _).2 h.row
/-- The value of a row. -/
def rowAt (g : G) (y : Int) (r : List Int) : Int := at' (g.ys.zip r) y
def value (g : G) (x y : Int) : Int := if checkG g = 0 then at' (g.xs.zip (g.vs.map (rowAt g y))) x else 0
/-- Sixteen numbers that are filled from the front. -/
def fill16 (l : List Int) (i : Nat) : List Int := l.take i ++ List.replicate (16 - i) 0
theorem fill16_len {l : List Int} {i : Nat} (h : i ≤ l.length) (h2 : l.length ≤ 16) : (fill16 l i).length = 16 := by simp [fill16]; omega
theorem fill16_next {l : List Int} {i : Nat} (h : i < l.length) (h2 : l.length ≤ 16) : (fill16 l i).take i ++ l[i] :: (fill16 l i).drop (i + 1) = fill16 l (i + 1) := by
  unfold fill16
  rw [List.take_append_of_le_length (by simp; omega), List.take_of_length_le (by simp; omega), List.drop_append, List.drop_of_length_le (by simp; omega)]
  rw [List.take_succ_eq_append_getElem h, List.append_assoc]
  simp [Nat.min_eq_left (Nat.le_of_lt h)]
  omega
theorem chunk_I (l : List Int) : chunk 1 l.length (l.map I) = l.map eI := by
  apply List.ext_getElem?
  intro i
  by_cases h : i < l.length
  · simp [chunk, h, List.take_one]
  · simp [chunk, h]
theorem rowsI_eI : ∀ l : List Int, rowsI (l.map eI) = some (l.map eI)
  | [] => rfl
  | n :: r => by
    have h := rowsI_eI r
    rw [List.map_cons, rowsI, h]
    simp
theorem usedC_I (k : Nat) : ∀ l : List Int, usedC k (l.map I) = false
  | [] => rfl
  | n :: r => by
    have h := usedC_I k r
    simp [usedC, h]
theorem kill1_I (k : Nat) (l : List Int) : (l.map I).map (kill1 k) = l.map I := by
  simp
end Go.Proofs.Ytgngoijehjphoaa
