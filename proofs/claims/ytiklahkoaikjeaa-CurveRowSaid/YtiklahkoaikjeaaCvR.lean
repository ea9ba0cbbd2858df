/-
  The curve's functions of the program, run abstractly: Rising and Reach.
-/
import Derived.Test.YtiklahkoaikjeaaCvB
namespace Go.Proofs.Ytiklahkoaikjeaa
set_option linter.unusedSimpArgs false
set_option linter.unusedVariables false
open Go Go.Abs
set_option maxHeartbeats 2000000
set_option maxRecDepth 100000

/-! ### Rising -/
def ris (y : Int) : List (Int × Int) → Bool
  | [] => true
  | q :: r => if q.2 < y then false else ris q.2 r
def rising (l : List (Int × Int)) : Bool := match l with
  | [] => true
  | p :: r => ris p.2 r
theorem rising_loop (l : List (Int × Int)) (hb : l.length ≤ 9223372036854775807) : ∀ (n i : Nat) (h0 : 0 < i), (hi : i ≤ l.length) → l.length - i < n →
    L_curve_Rising 4 n ⟨[(0, .sl (l.map eP)), (2, .any), (3, I i)], []⟩ =
      if ris (l[i - 1]'(by omega)).2 (l.drop i) = true then some (.ex 0, ⟨[(0, .any), (2, .any), (3, .any)], []⟩)
      else some (.ret, ⟨[(0, .any), (2, B false), (3, .any)], []⟩)
  | 0, i, _, _, hn => by omega
  | n + 1, i, h0, hi, hn => by
    rw [L_curve_Rising_succ, R_curve_Rising_eq]
    by_cases h : i < l.length
    · have h1 := List.getElem?_eq_getElem h
      have h3 : (i : Int) < l.length := by omega
      have hw := wrapN (n := i) (by omega)
      have ih := rising_loop l hb n (i + 1) (by omega) (by omega) (by omega)
      simp only [Int.natCast_add, Int.natCast_one, Nat.add_sub_cancel] at ih
      have h5 := wrapP (n := i) (by omega) (by omega)
      have h6 := List.getElem?_eq_getElem (l := l) (i := i - 1) (by omega)
      rw [List.drop_eq_getElem_cons h, ris]
      by_cases hq : l[i].2 < (l[i - 1]'(by omega)).2 <;> simp [h1, h3, hw, h5, h6, ih, hq]
    · have h3 : ¬ (i : Int) < l.length := by omega
      have h4 : l.drop i = [] := List.drop_of_length_le (by omega)
      simp [h3, h4, ris]
theorem rising_run (l : List (Int × Int)) (hb : l.length ≤ 9223372036854775807) : F_curve_Rising [.sl (l.map eP)] = some (B (decide (check l = 0) && rising l)) := by
  rw [F_curve_Rising_eq]
  by_cases hc : check l = 0
  · have hg := (good_iff l).1 hc
    have hl : 0 < l.length := List.length_pos_iff.2 hg.ne
    have ih := rising_loop l hb bigL 1 (by omega) (by omega) (by have := bigL_ge; omega)
    simp at ih
    have hr : rising l = ris (l[0]).2 l.tail := by cases l with
      | nil => simp at hl
      | cons p r => rfl
    simp [check_run l hb, hc, ih, hr]
  · simp [check_run l hb, hc]

/-! ### Reach -/
/-- The first x between two points at which the value is high enough. -/
def firstX (s t : Int × Int) (y : Int) : Int := s.1 + ((y - s.2) * (t.1 - s.1) + (t.2 - s.2) - 1) / (t.2 - s.2)
def rch (y : Int) (s : Int × Int) : List (Int × Int) → Option Int
  | [] => none
  | t :: r => if y ≤ t.2 then some (firstX s t y) else rch y t r
def reach (l : List (Int × Int)) (y : Int) : Option Int := if check l = 0 then
    match l with
    | [] => none
    | p :: r => if y ≤ p.2 then some p.1 else rch y p r
  else none
theorem reach_eq {l : List (Int × Int)} (y : Int) (hc : check l = 0) (hl : 0 < l.length) : reach l y = if y ≤ l[0].2 then some l[0].1 else rch y l[0] l.tail := by
  rw [reach.eq_def, if_pos hc]
  cases l with
  | nil => simp at hl
  | cons p r => rfl
theorem first_wraps {s t : Int × Int} {y : Int} (hs : (-1000000 ≤ s.1 ∧ s.1 ≤ 1000000) ∧ (-1000000 ≤ s.2 ∧ s.2 ≤ 1000000)) (ht : (-1000000 ≤ t.1 ∧ t.1 ≤ 1000000) ∧ (-1000000 ≤ t.2 ∧ t.2 ≤ 1000000)) (hx : s.1 < t.1) (h1 : s.2 < y) (h2 : y ≤ t.2) :
    IntKind.i64.wrap (t.2 - s.2) = t.2 - s.2 ∧ IntKind.i64.wrap (y - s.2) = y - s.2 ∧ IntKind.i64.wrap (t.1 - s.1) = t.1 - s.1 ∧ IntKind.i64.wrap ((y - s.2) * (t.1 - s.1)) = (y - s.2) * (t.1 - s.1) ∧
    IntKind.i64.wrap ((y - s.2) * (t.1 - s.1) + (t.2 - s.2)) = (y - s.2) * (t.1 - s.1) + (t.2 - s.2) ∧ IntKind.i64.wrap ((y - s.2) * (t.1 - s.1) + (t.2 - s.2) - 1) = (y - s.2) * (t.1 - s.1) + (t.2 - s.2) - 1 ∧
    (¬ t.2 - s.2 = 0) ∧ IntKind.i64.wrap (((y - s.2) * (t.1 - s.1) + (t.2 - s.2) - 1).tdiv (t.2 - s.2)) = ((y - s.2) * (t.1 - s.1) + (t.2 - s.2) - 1) / (t.2 - s.2) ∧
    IntKind.i64.wrap (s.1 + ((y - s.2) * (t.1 - s.1) + (t.2 - s.2) - 1) / (t.2 - s.2)) = s.1 + ((y - s.2) * (t.1 - s.1) + (t.2 - s.2) - 1) / (t.2 - s.2) ∧
    IntKind.i64.wrap (-(y - s.2)) = -(y - s.2) ∧ IntKind.i64.wrap (-(y - s.2) * (t.1 - s.1)) = -(y - s.2) * (t.1 - s.1) ∧ (-4611686018427387904 ≤ -(y - s.2) * (t.1 - s.1) ∧ -(y - s.2) * (t.1 - s.1) ≤ 4611686018427387904) := by
  have hm := mul_bound (a := y - s.2) (b := t.1 - s.1) (A := 2000000) (C := 2000000) (by omega) (by omega) (by omega) (by omega) (by omega)
  have hp : 0 ≤ (y - s.2) * (t.1 - s.1) := Int.mul_nonneg (by omega) (by omega)
  have hd : 0 < t.2 - s.2 := by omega
  have hq : 0 ≤ (y - s.2) * (t.1 - s.1) + (t.2 - s.2) - 1 := by omega
  have e0 : ((y - s.2) * (t.1 - s.1) + (t.2 - s.2) - 1).tdiv (t.2 - s.2) = ((y - s.2) * (t.1 - s.1) + (t.2 - s.2) - 1) / (t.2 - s.2) := Int.tdiv_eq_ediv_of_nonneg hq
  have e1 : 0 ≤ ((y - s.2) * (t.1 - s.1) + (t.2 - s.2) - 1) / (t.2 - s.2) := Int.ediv_nonneg hq (by omega)
  have e2 : ((y - s.2) * (t.1 - s.1) + (t.2 - s.2) - 1) / (t.2 - s.2) ≤ (y - s.2) * (t.1 - s.1) + (t.2 - s.2) - 1 := Int.ediv_le_self _ hq
  have e3 : -(y - s.2) * (t.1 - s.1) = -((y - s.2) * (t.1 - s.1)) := Int.neg_mul _ _
  refine ⟨wrap64 (by omega) (by omega), wrap64 (by omega) (by omega), wrap64 (by omega) (by omega), wrap64 (by omega) (by omega), wrap64 (by omega) (by omega), wrap64 (by omega) (by omega), by omega, ?_, wrap64 (by omega) (by omega), wrap64 (by omega) (by omega), ?_, by omega, by omega⟩
  · rw [e0]; exact wrap64 (by omega) (by omega)
  · exact wrap64 (by omega) (by omega)
/-- What Reach hands back. -/
def eO (o : Option Int) : D := .tup [I (o.getD 0), B o.isSome]
theorem reach_loop (l : List (Int × Int)) (hg : Good l) (y : Int) : ∀ (n i : Nat) (h0 : 0 < i) (hi : i ≤ l.length), (l[i - 1]'(by omega)).2 < y → l.length - i < n →
    L_curve_Reach 6 n ⟨[(0, .sl (l.map eP)), (1, I y), (4, .any), (5, .any), (6, I i), (7, .any), (8, .any), (9, .any)], []⟩ =
      if (rch y (l[i - 1]'(by omega)) (l.drop i)).isSome = true then some (.ret, ⟨[(0, .any), (1, .any), (4, I ((rch y (l[i - 1]'(by omega)) (l.drop i)).getD 0)), (5, B true), (6, .any), (7, .any), (8, .any), (9, .any)], []⟩)
      else some (.ex 0, ⟨[(0, .any), (1, .any), (4, .any), (5, .any), (6, .any), (7, .any), (8, .any), (9, .any)], []⟩)
  | 0, i, _, _, _, hn => by omega
  | n + 1, i, h0, hi, hx, hn => by
    rw [L_curve_Reach_succ, R_curve_Reach_eq]
    have hlen := hg.len
    by_cases h : i < l.length
    · have h1 := List.getElem?_eq_getElem h
      have h3 : (i : Int) < l.length := by omega
      have hw := wrapN (n := i) (by omega)
      have h5 := wrapP (n := i) (by omega) (by omega)
      have h6 := List.getElem?_eq_getElem (l := l) (i := i - 1) (by omega)
      rw [List.drop_eq_getElem_cons h, rch]
      by_cases hq : y ≤ l[i].2
      · obtain ⟨w1, w2, w3, w4, w5, w6, w7, w8, w9, _⟩ := first_wraps (hg.rng _ (List.getElem_mem (n := i - 1) (by omega))) (hg.rng _ (List.getElem_mem h)) (hg.pair h0 h) hx hq
        simp [h1, h3, hw, h5, h6, hq, w1, w2, w3, w4, w5, w6, w7, w8, w9, firstX]
      · have ih := reach_loop l hg y n (i + 1) (by omega) (by omega) (by simpa using hq) (by omega)
        simp only [Int.natCast_add, Int.natCast_one, Nat.add_sub_cancel] at ih
        simp [h1, h3, hw, h5, h6, hq, ih]
    · have h3 : ¬ (i : Int) < l.length := by omega
      have h4 : l.drop i = [] := List.drop_of_length_le (by omega)
      simp [h3, h4, rch]
theorem reach_run (l : List (Int × Int)) (y : Int) (hb : l.length ≤ 9223372036854775807) : F_curve_Reach [.sl (l.map eP), I y] = some (eO (reach l y)) := by
  rw [F_curve_Reach_eq]
  by_cases hc : check l = 0
  · have hg := (good_iff l).1 hc
    have hl : 0 < l.length := List.length_pos_iff.2 hg.ne
    have h1 := List.getElem?_eq_getElem hl
    rw [reach_eq y hc hl]
    by_cases hx : y ≤ l[0].2
    · simp [check_run l hb, hc, h1, hx, eO]
    · have ih := reach_loop l hg y bigL 1 (by omega) (by omega) (by simpa using hx) (by have := bigL_ge; have := hg.len; omega)
      rw [if_neg hx]
      simp only [Int.natCast_one, Nat.sub_self, List.drop_one] at ih
      cases hr : rch y l[0] l.tail with
      | none => simp [hr] at ih; simp [check_run l hb, hc, h1, hx, ih, eO]
      | some v => simp [hr] at ih; simp [check_run l hb, hc, h1, hx, ih, eO]
  · simp [check_run l hb, hc, reach, eO]

end Go.Proofs.Ytiklahkoaikjeaa
