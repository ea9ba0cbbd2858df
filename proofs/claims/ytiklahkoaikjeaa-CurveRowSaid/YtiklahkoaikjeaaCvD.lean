/-
  The value of a grid of the program, run abstractly.
-/
import Derived.Test.YtiklahkoaikjeaaCvC
namespace Go.Proofs.Ytiklahkoaikjeaa
set_option linter.unusedSimpArgs false
set_option linter.unusedVariables false
open Go Go.Abs
set_option maxHeartbeats 2000000
set_option maxRecDepth 100000

/-- A good grid. -/
structure GoodG (g : G) : Prop where
  nx : g.xs ≠ []
  ny : g.ys ≠ []
  lx : g.xs.length ≤ 16
  ly : g.ys.length ≤ 16
  ax : axis g.xs = 0
  ay : axis g.ys = 0
  lv : g.vs.length = g.xs.length
  row : ∀ r ∈ g.vs, r.length = g.ys.length ∧ ∀ n ∈ r, inR n = true
theorem allR_iff : ∀ l : List Int, allR l = true ↔ ∀ n ∈ l, inR n = true
  | [] => by simp [allR]
  | n :: r => by
    rw [allR]
    cases h : inR n <;> simp [h, allR_iff r]
theorem rowsC_iff (m : Nat) : ∀ vs : List (List Int), rowsC m vs = 0 ↔ ∀ r ∈ vs, r.length = m ∧ ∀ n ∈ r, inR n = true
  | [] => by simp [rowsC]
  | r :: rs => by
    rw [rowsC]
    by_cases h1 : (r.length : Int) = m
    · by_cases h2 : allR r = true
      · rw [if_pos h1, if_pos h2, rowsC_iff m rs]
        rw [allR_iff] at h2
        simp
        exact fun _ => ⟨by omega, h2⟩
      · rw [if_pos h1, if_neg h2]
        rw [allR_iff] at h2
        simp
        intro _ h3
        exact absurd h3 h2
    · rw [if_neg h1]
      simp
      intro h2
      omega
theorem goodG_iff (g : G) : checkG g = 0 ↔ GoodG g := by
  unfold checkG
  constructor
  · intro h
    split at h
    · cases h
    split at h
    · cases h
    split at h
    · cases h
    split at h
    · cases h
    split at h
    · rename_i h5; exact absurd h h5
    split at h
    · rename_i h5; exact absurd h h5
    split at h
    · cases h
    rename_i a b c d e f k
    exact ⟨a, b, by omega, by omega, by simpa using e, by simpa using f, by omega, (rowsC_iff _ _).1 h⟩
  · intro h
    have := h.lx
    have := h.ly
    have := h.lv
    rw [if_neg h.nx, if_neg h.ny, if_neg (by omega), if_neg (by omega), if_neg (by simp [h.ax]), if_neg (by simp [h.ay]), if_neg (by omega)]
    exact (rowsC_iff _ _).2 h.row
/-- The value of a row. -/
def rowAt (g : G) (y : Int) (r : List Int) : Int := at' (g.ys.zip r) y
def value (g : G) (x y : Int) : Int := if checkG g = 0 then at' (g.xs.zip (g.vs.map (rowAt g y))) x else 0
/-- Sixteen numbers that are filled from the front. -/
def fill16 (l : List Int) (i : Nat) : List Int := l.take i ++ List.replicate (16 - i) 0
theorem fill16_len {l : List Int} {i : Nat} (h : i ≤ l.length) (h2 : l.length ≤ 16) : (fill16 l i).length = 16 := by simp [fill16]; omega
theorem fill16_next {l : List Int} {i : Nat} (h : i < l.length) (h2 : l.length ≤ 16) : (fill16 l i).take i ++ l[i] :: (fill16 l i).drop (i + 1) = fill16 l (i + 1) := by
  unfold fill16
  rw [List.take_append_of_le_length (by simp; omega), List.take_of_length_le (by simp; omega), List.drop_append, List.drop_of_length_le (by simp; omega)]
  rw [List.take_succ_eq_append_getElem h, List.append_assoc]
  simp [Nat.min_eq_left (Nat.le_of_lt h)]
  omega
theorem value_loop (g : G) (x y : Int) (hg : GoodG g) : ∀ (n i : Nat), i ≤ g.vs.length → g.vs.length - i < n →
    L_curve_Value 5 n ⟨[(0, .any), (1, I x), (2, I y), (3, .ptr 3 0), (6, .any), (7, .ptr 7 0), (8, .any), (9, .any), (14, .sl (g.vs.map eR)), (15, I g.vs.length), (16, I i)], [(3, .box 30 (eG g)), (7, .box 42 ((fill16 (g.vs.map (rowAt g y)) i).map I))]⟩ =
      some (.ex 0, ⟨[(0, .any), (1, I x), (2, .any), (3, .ptr 3 0), (6, .any), (7, .ptr 7 0), (8, .any), (9, .any), (14, .any), (15, .any), (16, .any)], [(3, .box 30 (eG g)), (7, .box 42 ((fill16 (g.vs.map (rowAt g y)) g.vs.length).map I))]⟩)
  | 0, i, _, hn => by omega
  | n + 1, i, hi, hn => by
    rw [L_curve_Value_succ, R_curve_Value_eq]
    have hlv := hg.lv
    have hlx := hg.lx
    have hly := hg.ly
    by_cases h : i < g.vs.length
    · have h1 := List.getElem?_eq_getElem h
      have h3 : (i : Int) < g.vs.length := by omega
      have h16 : (i : Int) < 16 := by omega
      have hw := wrapN (n := i) (by omega)
      have hrow := hg.row _ (List.getElem_mem h)
      have ih := value_loop g x y hg n (i + 1) (by omega) (by omega)
      have hp := points_run g.ys g.vs[i] (by omega) (by omega)
      have ha := at_run (g.ys.zip g.vs[i]) y (by simp; omega)
      have hn := fill16_next (l := g.vs.map (rowAt g y)) (i := i) (by simpa using h) (by simp; omega)
      have hc := fill16_len (l := g.vs.map (rowAt g y)) (i := i) (by simp; omega) (by simp; omega)
      simp only [List.getElem_map] at hn
      have hs : List.take i ((fill16 (g.vs.map (rowAt g y)) i).map I) ++ I (rowAt g y g.vs[i]) :: List.drop (i + 1) ((fill16 (g.vs.map (rowAt g y)) i).map I) = (fill16 (g.vs.map (rowAt g y)) (i + 1)).map I := by
        rw [← hn]; simp
      have hcl : ((fill16 (g.vs.map (rowAt g y)) i).map I).length = 16 := by simpa using hc
      generalize (fill16 (g.vs.map (rowAt g y)) i).map I = cs at hs hcl ⊢
      simp only [Int.natCast_add, Int.natCast_one] at ih
      have hi16 : i + 1 ≤ 16 := by omega
      have hi16' : i < 16 := by omega
      simp [rowAt] at hs
      simp at ih
      simp [h1, h3, h, hw, hp, ha, hcl, h16, hi16, hi16', hs, ih]
    · have h3 : ¬ (i : Int) < g.vs.length := by omega
      have h5 : i = g.vs.length := by omega
      subst h5
      simp
theorem chunk_I (l : List Int) : chunk 1 l.length (l.map I) = l.map eI := by
  apply List.ext_getElem?
  intro i
  by_cases h : i < l.length
  · simp [chunk, h, List.take_one]
  · simp [chunk, h]
theorem rowsI_eI : ∀ l : List Int, rowsI (l.map eI) = some (l.map eI)
  | [] => rfl
  | n :: r => by
    have h := rowsI_eI r
    rw [List.map_cons, rowsI, h]
    simp
theorem usedC_I (k : Nat) : ∀ l : List Int, usedC k (l.map I) = false
  | [] => rfl
  | n :: r => by
    have h := usedC_I k r
    simp [usedC, h]
theorem kill1_I (k : Nat) (l : List Int) : (l.map I).map (kill1 k) = l.map I := by
  simp
theorem value_run (g : G) (x y : Int) (hf : g.Fits) : F_curve_Value [.agg (eG g), I x, I y] = some (I (value g x y)) := by
  rw [F_curve_Value_eq]
  have hrun := checkG_run g hf
  simp at hrun
  by_cases hc : checkG g = 0
  · have hg := (goodG_iff g).1 hc
    have hlv := hg.lv
    have hlx := hg.lx
    have ih := value_loop g x y hg bigL 0 (by omega) (by have := bigL_ge; omega)
    have h0 : (fill16 (g.vs.map (rowAt g y)) 0).map I = [I 0, I 0, I 0, I 0, I 0, I 0, I 0, I 0, I 0, I 0, I 0, I 0, I 0, I 0, I 0, I 0] := rfl
    rw [h0] at ih
    have hl : (fill16 (g.vs.map (rowAt g y)) g.vs.length).length = 16 := fill16_len (by simp) (by simp; omega)
    have hz : g.xs.zip (fill16 (g.vs.map (rowAt g y)) g.vs.length) = g.xs.zip (g.vs.map (rowAt g y)) := by
      unfold fill16
      rw [List.take_of_length_le (by simp)]
      rw [← List.append_nil g.xs, List.zip_append (by simp [hlv])]
      simp
    have hp := points_run g.xs (fill16 (g.vs.map (rowAt g y)) g.vs.length) (by omega) (by omega)
    rw [hz] at hp
    have hch := chunk_I (fill16 (g.vs.map (rowAt g y)) g.vs.length)
    have hri := rowsI_eI (fill16 (g.vs.map (rowAt g y)) g.vs.length)
    have hcl : ((fill16 (g.vs.map (rowAt g y)) g.vs.length).map I).length = 16 := by simpa using hl
    rw [hl] at hch
    have hus := fun k => usedC_I k (fill16 (g.vs.map (rowAt g y)) g.vs.length)
    have hki := fun k => kill1_I k (fill16 (g.vs.map (rowAt g y)) g.vs.length)
    generalize (fill16 (g.vs.map (rowAt g y)) g.vs.length).map I = cs at hch hcl ih hus hki
    have ha := at_run (g.xs.zip (g.vs.map (rowAt g y))) x (by simp; omega)
    simp at ih
    simp [hrun, hc, ih, value, hcl, hch, hri, hp, ha, hus, hki, -chunk]
  · simp [hrun, hc, value]
end Go.Proofs.Ytiklahkoaikjeaa
