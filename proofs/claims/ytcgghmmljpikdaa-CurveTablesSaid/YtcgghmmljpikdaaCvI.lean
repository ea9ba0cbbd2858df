/-
  The statements CurveBetween and CurveFirst, run abstractly.
-/
import Derived.Test.YtcgghmmljpikdaaCvH
namespace Go.Proofs.Ytcgghmmljpikdaa
set_option linter.unusedSimpArgs false
set_option linter.unusedVariables false
open Go Go.Abs
set_option maxHeartbeats 2000000
set_option maxRecDepth 100000

theorem at_between' {l : List (Int × Int)} (hg : Good l) {x : Int} {i : Nat} (h0 : 0 < i) (hi : i < l.length) (h1 : (l[i - 1]'(by omega)).1 ≤ x) (h2 : x ≤ l[i].1) : min (l[i - 1]'(by omega)).2 l[i].2 ≤ at' l x ∧ at' l x ≤ max (l[i - 1]'(by omega)).2 l[i].2 := by
  obtain ⟨j, rfl⟩ : ∃ j, i = j + 1 := ⟨i - 1, by omega⟩
  exact at_between hg (i := j) hi h1 h2
theorem between_loop (l : List (Int × Int)) (hg : Good l) (x z : Int) : ∀ (n i : Nat), i ≤ l.length → l.length - i < n →
    L_law08_CurveBetween 5 n ⟨[(0, .sl (l.map eP)), (1, I x), (2, I z), (6, .any), (7, I (at' l x)), (8, I i), (9, .any)], []⟩ =
      some (.ex 0, ⟨[(0, .sl (l.map eP)), (1, I x), (2, I z), (6, .any), (7, I (at' l x)), (8, .any), (9, .any)], []⟩)
  | 0, i, _, hn => by omega
  | n + 1, i, hi, hn => by
    rw [L_law08_CurveBetween_succ, R_law08_CurveBetween_eq]
    have hlen := hg.len
    by_cases h : i < l.length
    · have h1 := List.getElem?_eq_getElem h
      have h3 : (i : Int) < l.length := by omega
      have hw := wrapN (n := i) (by omega)
      have ha := at_run l l[i].1 (by omega)
      rw [at_point hg h] at ha
      have ih := between_loop l hg x z n (i + 1) (by omega) (by omega)
      simp only [Int.natCast_add, Int.natCast_one] at ih
      by_cases h0 : i = 0
      · have h7 : ¬ 0 < i := by omega
        simp [h1, h3, hw, ha, h7, ih]
      · have h5 := wrapP h0 (by omega)
        have h6 := List.getElem?_eq_getElem (l := l) (i := i - 1) (by omega)
        have h7 : 0 < i := by omega
        by_cases hx1 : (l[i - 1]'(by omega)).1 ≤ x
        · by_cases hx2 : x ≤ l[i].1
          · have hb := at_between' hg h7 h hx1 hx2
            simp [h1, h3, hw, ha, h5, h6, h7, hx1, hx2, ih]
            repeat' split
            all_goals (first | rfl | (exfalso; omega))
          · simp [h1, h3, hw, ha, h5, h6, h7, hx1, hx2, ih]
        · simp [h1, h3, hw, ha, h5, h6, h7, hx1, ih]
    · have h3 : ¬ (i : Int) < l.length := by omega
      simp [h3]
theorem between_law (l : List (Int × Int)) (x z : Int) (hb : l.length ≤ 9223372036854775807) : F_law08_CurveBetween [.sl (l.map eP), I x, I z] = some (B true) := by
  rw [F_law08_CurveBetween_eq]
  by_cases hl : (l.length : Int) ≤ 100
  · by_cases hc : check l = 0
    · have hg := (good_iff l).1 hc
      have hpos := hg.pos
      have ih := between_loop l hg x z bigL 0 (by omega) (by have := bigL_ge; omega)
      have h4 := wrapP (n := l.length) (by omega) (by omega)
      have h1 := List.getElem?_eq_getElem hpos
      have h6 := List.getElem?_eq_getElem (l := l) (i := l.length - 1) (by omega)
      simp at ih
      have q1 : x ≤ l[0].1 → at' l x = l[0].2 := fun h => at_low hg hpos h
      have q2 : (l[l.length - 1]'(by omega)).1 ≤ x → at' l x = (l[l.length - 1]'(by omega)).2 := fun h => at_high hg h
      have q3 : rising l = true → at' l (if z < x then z else x) ≤ at' l (if x < z then z else x) := fun h => at_mono hg h (by split <;> split <;> omega)
      simp [lsmall_run, hl, rcheck_run l hb, hc, at_run l _ hb, rising_run l hb, awake_run, ih, h1, h4, h6]
      have q3' : rising l = false ∨ at' l (if z < x then z else x) ≤ at' l (if x < z then z else x) := by
        cases h : rising l
        · exact .inl rfl
        · exact .inr (q3 h)
      by_cases c1 : x ≤ l[0].1 <;> by_cases c2 : (l[l.length - 1]'(by omega)).1 ≤ x
      · rw [if_pos c1, if_pos c2]; exact ⟨q1 c1, q2 c2, q3'⟩
      · rw [if_pos c1, if_neg c2]; exact ⟨q1 c1, q3'⟩
      · rw [if_neg c1, if_pos c2]; exact ⟨q2 c2, q3'⟩
      · rw [if_neg c1, if_neg c2]; exact q3'
    · simp [lsmall_run, hl, rcheck_run l hb, hc, awake_run]
  · simp [lsmall_run, hl, awake_run]
end Go.Proofs.Ytcgghmmljpikdaa
