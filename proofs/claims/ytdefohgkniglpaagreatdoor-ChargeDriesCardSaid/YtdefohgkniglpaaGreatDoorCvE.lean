/-
  The reference's curves, run abstractly: they compute what the program computes.
-/
import Derived.Test.YtdefohgkniglpaaGreatDoorCvD
namespace Go.Proofs.YtdefohgkniglpaaGreatDoor
set_option linter.unusedSimpArgs false
set_option linter.unusedVariables false
open Go Go.Abs
set_option maxHeartbeats 2000000
set_option maxRecDepth 100000

theorem rcheck_loop (l : List (Int × Int)) (hb : l.length ≤ 9223372036854775807) : ∀ (n i : Nat), i ≤ l.length → l.length - i < n →
    L_ref08_Check 6 n ⟨[(0, .sl (l.map eP)), (2, .any), (3, I i)], []⟩ =
      if chk (prv l i) (l.drop i) = 0 then some (.ex 0, ⟨[(0, .any), (2, .any), (3, .any)], []⟩)
      else some (.ret, ⟨[(0, .any), (2, I (chk (prv l i) (l.drop i))), (3, .any)], []⟩)
  | 0, i, _, hn => by omega
  | n + 1, i, hi, hn => by
    rw [L_ref08_Check_succ, R_ref08_Check_eq]
    by_cases h : i < l.length
    · have h1 := List.getElem?_eq_getElem h
      have h3 : (i : Int) < l.length := by omega
      have hw := wrapN (n := i) (by omega)
      have ih := rcheck_loop l hb n (i + 1) (by omega) (by omega)
      rw [List.drop_eq_getElem_cons h, chk]
      rw [prv_succ h] at ih
      simp only [Int.natCast_add, Int.natCast_one] at ih
      by_cases h0 : i = 0
      · have h7 : ¬ 0 < i := by omega
        have hp : prv l i = none := by simp [prv, h0]
        simp [h1, h3, small_run, hw, h7, ih, hp]
        cases inR l[i].1 <;> cases inR l[i].2 <;> simp
      · have h5 := wrapP h0 (by omega)
        have h6 := List.getElem?_eq_getElem (l := l) (i := i - 1) (by omega)
        have h7 : 0 < i := by omega
        rw [prv_pos h0 h]
        simp [h1, h3, small_run, hw, h5, h6, h7, ih]
        cases inR l[i].1 <;> cases inR l[i].2 <;> simp
        split <;> simp
    · have h3 : ¬ (i : Int) < l.length := by omega
      have h4 : l.drop i = [] := List.drop_of_length_le (by omega)
      simp [h3, h4, chk]
theorem rcheck_run (l : List (Int × Int)) (hb : l.length ≤ 9223372036854775807) : F_ref08_Check [.sl (l.map eP)] = some (I (check l)) := by
  rw [F_ref08_Check_eq]
  have ih := rcheck_loop l hb bigL 0 (by omega) (by have := bigL_ge; omega)
  simp [prv] at ih
  simp [ih, check]
  repeat' split
  all_goals simp_all
theorem rfloor_val {a b : Int} (hb : 0 < b) : (if a < a.tdiv b * b then a.tdiv b - 1 else a.tdiv b) = a / b := by
  have h1 := Int.mul_tdiv_add_tmod a b
  rw [← floor_val hb]
  rw [Int.mul_comm] at h1
  by_cases h : a.tmod b < 0
  · rw [if_pos h, if_pos (by omega)]
  · rw [if_neg h, if_neg (by omega)]
theorem rfloor_run {a b : Int} (hb : 0 < b) (h1 : -4611686018427387904 ≤ a) (h2 : a ≤ 4611686018427387904) (h3 : b ≤ 2000000) : F_ref08_floor [I a, I b] = some (I (a / b)) := by
  rw [F_ref08_floor_eq]
  have h3 : b ≠ 0 := by omega
  have h4 := tdiv_abs a b hb
  have h5 := Int.mul_tdiv_add_tmod a b
  have h6 := Int.tmod_lt_of_pos a hb
  have h7 := Int.lt_tmod_of_pos a hb
  rw [Int.mul_comm] at h5
  have hw : IntKind.i64.wrap (a.tdiv b) = a.tdiv b := wrap64 (by omega) (by omega)
  have hw2 : IntKind.i64.wrap (a.tdiv b - 1) = a.tdiv b - 1 := wrap64 (by omega) (by omega)
  have hw3 : IntKind.i64.wrap (a.tdiv b * b) = a.tdiv b * b := wrap64 (by omega) (by omega)
  rw [← rfloor_val hb]
  simp [h3, hw, hw2, hw3]
theorem between_run {s t : Int × Int} {x : Int} (hs : (-1000000 ≤ s.1 ∧ s.1 ≤ 1000000) ∧ (-1000000 ≤ s.2 ∧ s.2 ≤ 1000000)) (ht : (-1000000 ≤ t.1 ∧ t.1 ≤ 1000000) ∧ (-1000000 ≤ t.2 ∧ t.2 ≤ 1000000)) (h1 : s.1 < x) (h2 : x ≤ t.1) :
    F_ref08_Between [I s.1, I s.2, I t.1, I t.2, I x] = some (I (seg s t x)) := by
  rw [F_ref08_Between_eq]
  obtain ⟨w1, w2, w3, w4, w5, w6⟩ := seg_wraps hs ht h1 h2
  have hf := rfloor_run (b := t.1 - s.1) (by omega) w5.1 w5.2 (by omega)
  simp [w1, w2, w3, w4, w6, hf, seg]
theorem rat_loop (l : List (Int × Int)) (hg : Good l) (x : Int) : ∀ (n i : Nat) (h0 : 0 < i) (hi : i ≤ l.length), (l[i - 1]'(by omega)).1 < x → l.length - i < n →
    L_ref08_At 6 n ⟨[(0, .sl (l.map eP)), (1, I x), (4, .any), (5, I i)], []⟩ =
      if hit x (l.drop i) = true then some (.ret, ⟨[(0, .any), (1, .any), (4, I (interp x (l[i - 1]'(by omega)) (l.drop i))), (5, .any)], []⟩)
      else some (.ex 0, ⟨[(0, .sl (l.map eP)), (1, .any), (4, .any), (5, .any)], []⟩)
  | 0, i, _, _, _, hn => by omega
  | n + 1, i, h0, hi, hx, hn => by
    rw [L_ref08_At_succ, R_ref08_At_eq]
    have hlen := hg.len
    by_cases h : i < l.length
    · have h1 := List.getElem?_eq_getElem h
      have h3 : (i : Int) < l.length := by omega
      have hw := wrapN (n := i) (by omega)
      have h5 := wrapP (n := i) (by omega) (by omega)
      have h6 := List.getElem?_eq_getElem (l := l) (i := i - 1) (by omega)
      rw [List.drop_eq_getElem_cons h, interp, hit]
      by_cases hq : x ≤ l[i].1
      · have hf := between_run (hg.rng _ (List.getElem_mem (n := i - 1) (by omega))) (hg.rng _ (List.getElem_mem h)) hx hq
        simp [h1, h3, hw, h5, h6, hq, hf]
      · have ih := rat_loop l hg x n (i + 1) (by omega) (by omega) (by simpa using hq) (by omega)
        simp only [Int.natCast_add, Int.natCast_one, Nat.add_sub_cancel] at ih
        simp [h1, h3, hw, h5, h6, hq, ih]
    · have h3 : ¬ (i : Int) < l.length := by omega
      have h4 : l.drop i = [] := List.drop_of_length_le (by omega)
      simp [h3, h4, hit]
theorem rat_run (l : List (Int × Int)) (x : Int) (hb : l.length ≤ 9223372036854775807) : F_ref08_At [.sl (l.map eP), I x] = some (I (at' l x)) := by
  rw [F_ref08_At_eq]
  by_cases hc : check l = 0
  · have hg := (good_iff l).1 hc
    have hl : 0 < l.length := List.length_pos_iff.2 hg.ne
    have h1 := List.getElem?_eq_getElem hl
    rw [at_eq x hc hl]
    by_cases hx : x ≤ l[0].1
    · simp [rcheck_run l hb, hc, h1, hx]
    · have ih := rat_loop l hg x bigL 1 (by omega) (by omega) (by simpa using hx) (by have := bigL_ge; have := hg.len; omega)
      have h2 := interp_last x (l.drop 1) l[0]
      have h4 := wrapP (n := l.length) (by omega) (by omega)
      have h6 := List.getElem?_eq_getElem (l := l) (i := l.length - 1) (by omega)
      have h7 : ((l[0] :: l.drop 1).getLast (by simp)) = l[l.length - 1]'(by omega) := by
        rw [List.getLast_eq_getElem]
        cases l with
        | nil => simp at hl
        | cons p r => simp
      rw [h7] at h2
      simp at ih
      rw [← List.drop_one] at ih
      by_cases ha : hit x (l.drop 1) = true
      · simp [rcheck_run l hb, hc, h1, hx, ih, ha, -List.drop_one]
      · have ha' : hit x (l.drop 1) = false := by simpa using ha
        rw [h2 ha']
        simp [rcheck_run l hb, hc, h1, hx, ih, ha', h4, h6, -List.drop_one]
  · simp [rcheck_run l hb, hc, at']
end Go.Proofs.YtdefohgkniglpaaGreatDoor
