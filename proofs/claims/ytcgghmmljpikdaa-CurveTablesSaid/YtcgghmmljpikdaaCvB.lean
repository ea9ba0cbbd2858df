/-
  The curve's functions of the program, run abstractly: Reach, and the axes of a grid.
-/
import Derived.Test.YtcgghmmljpikdaaCvA
namespace Go.Proofs.Ytcgghmmljpikdaa
set_option linter.unusedSimpArgs false
set_option linter.unusedVariables false
open Go Go.Abs
set_option maxHeartbeats 2000000
set_option maxRecDepth 100000

/-! ### Reach -/
/-- The first x between two points at which the value is high enough. -/
def firstX (s t : Int × Int) (y : Int) : Int := s.1 + ((y - s.2) * (t.1 - s.1) + (t.2 - s.2) - 1) / (t.2 - s.2)
def rch (y : Int) (s : Int × Int) : List (Int × Int) → Option Int
  | [] => none
  | t :: r => if y ≤ t.2 then some (firstX s t y) else rch y t r
def reach (l : List (Int × Int)) (y : Int) : Option Int := if check l = 0 then
    match l with
    | [] => none
    | p :: r => if y ≤ p.2 then some p.1 else rch y p r
  else none
theorem reach_eq {l : List (Int × Int)} (y : Int) (hc : check l = 0) (hl : 0 < l.length) : reach l y = if y ≤ l[0].2 then some l[0].1 else rch y l[0] l.tail := by
  rw [reach.eq_def, if_pos hc]
  cases l with
  | nil => simp at hl
  | cons p r => rfl
theorem first_wraps {s t : Int × Int} {y : Int} (hs : (-1000000 ≤ s.1 ∧ s.1 ≤ 1000000) ∧ (-1000000 ≤ s.2 ∧ s.2 ≤ 1000000)) (ht : (-1000000 ≤ t.1 ∧ t.1 ≤ 1000000) ∧ (-1000000 ≤ t.2 ∧ t.2 ≤ 1000000)) (hx : s.1 < t.1) (h1 : s.2 < y) (h2 : y ≤ t.2) :
    IntKind.i64.wrap (t.2 - s.2) = t.2 - s.2 ∧ IntKind.i64.wrap (y - s.2) = y - s.2 ∧ IntKind.i64.wrap (t.1 - s.1) = t.1 - s.1 ∧ IntKind.i64.wrap ((y - s.2) * (t.1 - s.1)) = (y - s.2) * (t.1 - s.1) ∧
    IntKind.i64.wrap ((y - s.2) * (t.1 - s.1) + (t.2 - s.2)) = (y - s.2) * (t.1 - s.1) + (t.2 - s.2) ∧ IntKind.i64.wrap ((y - s.2) * (t.1 - s.1) + (t.2 - s.2) - 1) = (y - s.2) * (t.1 - s.1) + (t.2 - s.2) - 1 ∧
    (¬ t.2 - s.2 = 0) ∧ IntKind.i64.wrap (((y - s.2) * (t.1 - s.1) + (t.2 - s.2) - 1).tdiv (t.2 - s.2)) = ((y - s.2) * (t.1 - s.1) + (t.2 - s.2) - 1) / (t.2 - s.2) ∧
    IntKind.i64.wrap (s.1 + ((y - s.2) * (t.1 - s.1) + (t.2 - s.2) - 1) / (t.2 - s.2)) = s.1 + ((y - s.2) * (t.1 - s.1) + (t.2 - s.2) - 1) / (t.2 - s.2) ∧
    IntKind.i64.wrap (-(y - s.2)) = -(y - s.2) ∧ IntKind.i64.wrap (-(y - s.2) * (t.1 - s.1)) = -(y - s.2) * (t.1 - s.1) ∧ (-4611686018427387904 ≤ -(y - s.2) * (t.1 - s.1) ∧ -(y - s.2) * (t.1 - s.1) ≤ 4611686018427387904) := by
  have hm := mul_bound (a := y - s.2) (b := t.1 - s.1) (A := 2000000) (C := 2000000) (by omega) (by omega) (by omega) (by omega) (by omega)
  have hp : 0 ≤ (y - s.2) * (t.1 - s.1) := Int.mul_nonneg (by omega) (by omega)
  have hd : 0 < t.2 - s.2 := by omega
  have hq : 0 ≤ (y - s.2) * (t.1 - s.1) + (t.2 - s.2) - 1 := by omega
  have e0 : ((y - s.2) * (t.1 - s.1) + (t.2 - s.2) - 1).tdiv (t.2 - s.2) = ((y - s.2) * (t.1 - s.1) + (t.2 - s.2) - 1) / (t.2 - s.2) := Int.tdiv_eq_ediv_of_nonneg hq
  have e1 : 0 ≤ ((y - s.2) * (t.1 - s.1) + (t.2 - s.2) - 1) / (t.2 - s.2) := Int.ediv_nonneg hq (by omega)
  have e2 : ((y - s.2) * (t.1 - s.1) + (t.2 - s.2) - 1) / (t.2 - s.2) ≤ (y - s.2) * (t.1 - s.1) + (t.2 - s.2) - 1 := Int.ediv_le_self _ hq
  have e3 : -(y - s.2) * (t.1 - s.1) = -((y - s.2) * (t.1 - s.1)) := Int.neg_mul _ _
  refine ⟨wrap64 (by omega) (by omega), wrap64 (by omega) (by omega), wrap64 (by omega) (by omega), wrap64 (by omega) (by omega), wrap64 (by omega) (by omega), wrap64 (by omega) (by omega), by omega, ?_, wrap64 (by omega) (by omega), wrap64 (by omega) (by omega), ?_, by omega, by omega⟩
  · rw [e0]; exact wrap64 (by omega) (by omega)
  · exact wrap64 (by omega) (by omega)
/-- What Reach hands back. -/
def eO (o : Option Int) : D := .tup [I (o.getD 0), B o.isSome]
theorem reach_loop (l : List (Int × Int)) (hg : Good l) (y : Int) : ∀ (n i : Nat) (h0 : 0 < i) (hi : i ≤ l.length), (l[i - 1]'(by omega)).2 < y → l.length - i < n →
    L_curve_Reach 6 n ⟨[(0, .sl (l.map eP)), (1, I y), (4, .any), (5, .any), (6, I i), (7, .any), (8, .any), (9, .any)], []⟩ =
      if (rch y (l[i - 1]'(by omega)) (l.drop i)).isSome = true then some (.ret, ⟨[(0, .any), (1, .any), (4, I ((rch y (l[i - 1]'(by omega)) (l.drop i)).getD 0)), (5, B true), (6, .any), (7, .any), (8, .any), (9, .any)], []⟩)
      else some (.ex 0, ⟨[(0, .any), (1, .any), (4, .any), (5, .any), (6, .any), (7, .any), (8, .any), (9, .any)], []⟩)
  | 0, i, _, _, _, hn => by omega
  | n + 1, i, h0, hi, hx, hn => by
    rw [L_curve_Reach_succ, R_curve_Reach_eq]
    have hlen := hg.len
    by_cases h : i < l.length
    · have h1 := List.getElem?_eq_getElem h
      have h3 : (i : Int) < l.length := by omega
      have hw := wrapN (n := i) (by omega)
      have h5 := wrapP (n := i) (by omega) (by omega)
      have h6 := List.getElem?_eq_getElem (l := l) (i := i - 1) (by omega)
      rw [List.drop_eq_getElem_cons h, rch]
      by_cases hq : y ≤ l[i].2
      · obtain ⟨w1, w2, w3, w4, w5, w6, w7, w8, w9, _⟩ := first_wraps (hg.rng _ (List.getElem_mem (n := i - 1) (by omega))) (hg.rng _ (List.getElem_mem h)) (hg.pair h0 h) hx hq
        simp [h1, h3, hw, h5, h6, hq, w1, w2, w3, w4, w5, w6, w7, w8, w9, firstX]
      · have ih := reach_loop l hg y n (i + 1) (by omega) (by omega) (by simpa using hq) (by omega)
        simp only [Int.natCast_add, Int.natCast_one, Nat.add_sub_cancel] at ih
        simp [h1, h3, hw, h5, h6, hq, ih]
    · have h3 : ¬ (i : Int) < l.length := by omega
      have h4 : l.drop i = [] := List.drop_of_length_le (by omega)
      simp [h3, h4, rch]
theorem reach_run (l : List (Int × Int)) (y : Int) (hb : l.length ≤ 9223372036854775807) : F_curve_Reach [.sl (l.map eP), I y] = some (eO (reach l y)) := by
  rw [F_curve_Reach_eq]
  by_cases hc : check l = 0
  · have hg := (good_iff l).1 hc
    have hl : 0 < l.length := List.length_pos_iff.2 hg.ne
    have h1 := List.getElem?_eq_getElem hl
    rw [reach_eq y hc hl]
    by_cases hx : y ≤ l[0].2
    · simp [check_run l hb, hc, h1, hx, eO]
    · have ih := reach_loop l hg y bigL 1 (by omega) (by omega) (by simpa using hx) (by have := bigL_ge; have := hg.len; omega)
      rw [if_neg hx]
      simp only [Int.natCast_one, Nat.sub_self, List.drop_one] at ih
      cases hr : rch y l[0] l.tail with
      | none => simp [hr] at ih; simp [check_run l hb, hc, h1, hx, ih, eO]
      | some v => simp [hr] at ih; simp [check_run l hb, hc, h1, hx, ih, eO]
  · simp [check_run l hb, hc, reach, eO]

/-! ### The axes of a grid -/
def chkA (p : Option Int) : List Int → Int
  | [] => 0
  | q :: r => if inR q = false then 9 else if notUp p q = true then 11 else chkA (some q) r
def prvA (l : List Int) (i : Nat) : Option Int := if i = 0 then none else l[i - 1]?
theorem prvA_succ {l : List Int} {i : Nat} (h : i < l.length) : prvA l (i + 1) = some l[i] := by simp [prvA, h]
theorem prvA_pos {l : List Int} {i : Nat} (h0 : i ≠ 0) (h : i < l.length) : prvA l i = some (l[i - 1]'(by omega)) := by
  have : i - 1 < l.length := by omega
  simp [prvA, h0, this]
theorem axis_loop (l : List Int) (hb : l.length ≤ 9223372036854775807) : ∀ (n i : Nat), i ≤ l.length → l.length - i < n →
    L_curve_checkAxis 2 n ⟨[(0, .sl (l.map eI)), (2, .any), (3, .any), (4, .any), (5, .sl (l.map eI)), (6, I l.length), (7, I i)], []⟩ =
      if chkA (prvA l i) (l.drop i) = 0 then some (.ex 0, ⟨[(0, .any), (2, .any), (3, .any), (4, .any), (5, .any), (6, .any), (7, .any)], []⟩)
      else some (.ret, ⟨[(0, .any), (2, I (chkA (prvA l i) (l.drop i))), (3, .any), (4, .any), (5, .any), (6, .any), (7, .any)], []⟩)
  | 0, i, _, hn => by omega
  | n + 1, i, hi, hn => by
    rw [L_curve_checkAxis_succ, R_curve_checkAxis_eq]
    by_cases h : i < l.length
    · have h1 := List.getElem?_eq_getElem h
      have h3 : (i : Int) < l.length := by omega
      have hw := wrapN (n := i) (by omega)
      have ih := axis_loop l hb n (i + 1) (by omega) (by omega)
      rw [List.drop_eq_getElem_cons h, chkA]
      rw [prvA_succ h] at ih
      simp only [Int.natCast_add, Int.natCast_one] at ih
      by_cases h0 : i = 0
      · have h7 : ¬ 0 < i := by omega
        have hp : prvA l i = none := by simp [prvA, h0]
        simp [h1, h3, inRange_run, hw, h7, ih, hp]
        cases inR l[i] <;> simp
      · have h5 := wrapP h0 (by omega)
        have h6 := List.getElem?_eq_getElem (l := l) (i := i - 1) (by omega)
        have h7 : 0 < i := by omega
        rw [prvA_pos h0 h]
        simp [h1, h3, inRange_run, hw, h5, h6, h7, ih]
        cases inR l[i] <;> simp
        split <;> simp
    · have h3 : ¬ (i : Int) < l.length := by omega
      have h4 : l.drop i = [] := List.drop_of_length_le (by omega)
      simp [h3, h4, chkA]
def axis (l : List Int) : Int := chkA none l
theorem axis_run (l : List Int) (hb : l.length ≤ 9223372036854775807) : F_curve_checkAxis [.sl (l.map eI)] = some (I (axis l)) := by
  rw [F_curve_checkAxis_eq]
  have ih := axis_loop l hb bigL 0 (by omega) (by have := bigL_ge; omega)
  simp [prvA] at ih
  simp [ih, axis]
  exact Eq.symm
/-- A row of a grid's cells. -/
def eR (r : List Int) : List D := [.sl (r.map eI)]
@[simp] theorem eR_eq (r : List Int) : eR r = [.sl (r.map eI)] := rfl
/-! ### points -/
/-- A list that is filled from its front. -/
def filled {α : Type} (l : List α) (z : α) (i : Nat) : List α := l.take i ++ List.replicate (l.length - i) z
theorem filled_get {α : Type} {l : List α} {z : α} {i : Nat} (h : i < l.length) : (filled l z i)[i]? = some z := by
  simp only [filled]
  rw [List.getElem?_append_right (by simp; omega), List.length_take, Nat.min_eq_left (Nat.le_of_lt h), Nat.sub_self, List.getElem?_replicate, if_pos (by omega)]
theorem filled_set {α : Type} {l : List α} {z : α} {i : Nat} (h : i < l.length) : (filled l z i).set i l[i] = filled l z (i + 1) := by
  simp only [filled]
  rw [List.set_append_right _ _ (by simp; omega), List.length_take, Nat.min_eq_left (Nat.le_of_lt h), Nat.sub_self]
  have h1 : l.length - i = (l.length - (i + 1)) + 1 := by omega
  have h2 : l.take (i + 1) = l.take i ++ [l[i]] := by rw [List.take_succ_eq_append_getElem h]
  rw [h1, h2, List.replicate_succ, List.set_cons_zero, List.append_assoc]
  rfl
theorem filled_zero {α : Type} (l : List α) (z : α) : filled l z 0 = List.replicate l.length z := by simp [filled]
theorem filled_all {α : Type} {l : List α} {z : α} {i : Nat} (h : l.length ≤ i) : filled l z i = l := by
  simp [filled, List.take_of_length_le h, Nat.sub_eq_zero_of_le h]
theorem points_loop (xs ys : List Int) (hl : xs.length ≤ ys.length) (hb : xs.length ≤ 1000) : ∀ (n i : Nat), i ≤ xs.length → xs.length - i < n →
    L_curve_points 3 n ⟨[(0, .sl (xs.map eI)), (1, .sl (ys.map eI)), (4, .any), (5, .row 5), (6, .any), (11, I xs.length), (12, I i)], [(5, .row 40 2 true (filled ((xs.zip ys).map eP) [I 0, I 0] i))]⟩ =
      some (.ex 0, ⟨[(0, .any), (1, .any), (4, .any), (5, .row 5), (6, .any), (11, .any), (12, .any)], [(5, .row 40 2 true ((xs.zip ys).map eP))]⟩)
  | 0, i, _, hn => by omega
  | n + 1, i, hi, hn => by
    rw [L_curve_points_succ, R_curve_points_eq]
    by_cases h : i < xs.length
    · have h1 := List.getElem?_eq_getElem h
      have h2 := List.getElem?_eq_getElem (l := ys) (i := i) (by omega)
      have h3 : (i : Int) < xs.length := by omega
      have hw := wrapN (n := i) (by omega)
      have ih := points_loop xs ys hl hb n (i + 1) (by omega) (by omega)
      simp only [Int.natCast_add, Int.natCast_one] at ih
      have hi : i < ((xs.zip ys).map eP).length := by simp; omega
      have hg := filled_get (z := [I 0, I 0]) hi
      have hs := filled_set (z := [I 0, I 0]) hi
      simp only [List.getElem_map, List.getElem_zip, eP_eq] at hs
      generalize filled ((xs.zip ys).map eP) [I 0, I 0] i = es at hg hs ⊢
      simp [h1, h2, h3, hw, hg, hs, ih]
    · have h3 : ¬ (i : Int) < xs.length := by omega
      have h5 := filled_all (l := (xs.zip ys).map eP) (z := [I 0, I 0]) (i := i) (by simp; omega)
      simp [h3, h5]
theorem points_run (xs ys : List Int) (hl : xs.length ≤ ys.length) (hb : xs.length ≤ 1000) : F_curve_points [.sl (xs.map eI), .sl (ys.map eI)] = some (.own true ((xs.zip ys).map eP)) := by
  rw [F_curve_points_eq]
  have h1 : 16 * (xs.length : Int) ≤ 281474976710656 := by omega
  have h2 : (xs.length : Int) ≤ 1000000000000000000 := by omega
  have ih := points_loop xs ys hl hb bigL 0 (by omega) (by have := bigL_ge; omega)
  have h3 : min xs.length ys.length = xs.length := by omega
  simp [filled_zero, h3] at ih
  simp [h1, h2, ih]
end Go.Proofs.Ytcgghmmljpikdaa
