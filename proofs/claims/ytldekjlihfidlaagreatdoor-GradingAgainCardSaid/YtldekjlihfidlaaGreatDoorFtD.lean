/-
  The catalog's check and the defects', run abstractly.
-/
import Derived.Test.YtldekjlihfidlaaGreatDoorFtC
namespace Go.Proofs.YtldekjlihfidlaaGreatDoor
set_option linter.unusedSimpArgs false
set_option linter.unusedVariables false
open Go Go.Abs
set_option maxHeartbeats 8000000
set_option maxRecDepth 100000
theorem cat_loop (l : List Pd) (hl : l.length ≤ 1000) : ∀ (n i : Nat) (r : List Pd), l.drop i = r → r.length < n →
    L_product_Check 4 n ⟨[(0, .sl (l.map ePd)), (2, .any), (3, .any), (4, .any), (6, .any), (7, .any), (11, .sl (l.map ePd)), (12, I l.length), (13, I i)], []⟩ =
      if catE (l.take i) r = 0 then some (.ex 0, ⟨[(0, .any), (2, .any), (3, .any), (4, .any), (6, .any), (7, .any), (11, .any), (12, .any), (13, .any)], []⟩)
      else some (.ret, ⟨[(0, .any), (2, I (catE (l.take i) r)), (3, .any), (4, .any), (6, .any), (7, .any), (11, .any), (12, .any), (13, .any)], []⟩)
  | 0, _, _, _, hn => by omega
  | n + 1, i, [], hr, hn => by
    rw [L_product_Check_succ, R_product_Check_eq]
    simp [dn hr, catE]
  | n + 1, i, x :: r, hr, hn => by
    rw [L_product_Check_succ, R_product_Check_eq]
    obtain ⟨h1, h3, hr', hi⟩ := dc (enc := ePd) hr
    have hw := wrapN (n := i) (by omega)
    have ih := cat_loop l hl n (i + 1) r hr' (by simp at hn; omega)
    have hx : l[i]? = some x := by
      have := congrArg List.head? hr
      simpa [List.head?_drop] using this
    have ht : l.take (i + 1) = l.take i ++ [x] := by rw [List.take_add_one, hx]; rfl
    rw [ht] at ih
    obtain ⟨k, hf⟩ := find_run (l.take i) x.name (by rw [List.length_take]; omega)
    rw [List.map_take] at hf
    have hnm := isName_run x.name
    have hnu := nums_run x
    have h4 : (i : Int) ≤ l.length := by omega
    simp at ih hnu
    unfold catE
    cases a1 : isNm x.name
    · rw [a1] at hnm
      simp [h1, h3, hnm]
    · rw [a1] at hnm
      cases a2 : hasN x.name (l.take i)
      · rw [a2] at hf
        by_cases a3 : numsE x = 0
        · rw [a3] at hnu
          simp [h1, h3, h4, hnm, hf, hnu, a3, hw, ih]
        · simp [h1, h3, h4, hnm, hf, hnu, a3]
      · rw [a2] at hf
        simp [h1, h3, h4, hnm, hf]
theorem checkPd_run (l : List Pd) : F_product_Check [.sl (l.map ePd)] = some (I (checkPd l)) := by
  rw [F_product_Check_eq]
  unfold checkPd
  by_cases h : (16 : Int) < l.length
  · simp [h]
  · have ih := cat_loop l (by omega) bigL 0 l rfl (by have := bigL_ge; omega)
    simp at ih
    by_cases h2 : catE [] l = 0
    · simp [h2] at ih
      simp [h, ih, h2]
    · simp [h2] at ih
      simp [h, ih, h2]
/-! ### Defects -/
theorem isEmpty_run (a b : Int) : F_defect_isEmpty [.agg [I a, I b]] = some (B (decide (b ≤ a))) := by
  rw [F_defect_isEmpty_eq]
  simp
theorem dinside_run (a b lo hi : Int) : F_defect_inside [.agg [I a, I b], I lo, I hi] = some (B (decide (lo ≤ (if b < a then b else a)) && decide ((if a < b then b else a) ≤ hi))) := by
  rw [F_defect_inside_eq]
  simp
theorem dcheck_run (d : Dfc) : F_defect_check [.agg (eDf d)] = some (I (dfE d)) := by
  rw [F_defect_check_eq]
  have e1 := isEmpty_run d.xa d.xb
  have e2 := isEmpty_run d.ya d.yb
  have e3 := isEmpty_run d.za d.zb
  have i1 := dinside_run d.xa d.xb (-600) 600
  have i2 := dinside_run d.ya d.yb (-600) 600
  have i3 := dinside_run d.za d.zb 0 20000
  unfold dfE
  by_cases a1 : d.kind < 1
  · simp [a1]
  by_cases a2 : 6 < d.kind
  · simp [a1, a2]
  by_cases a3 : d.xb ≤ d.xa
  · simp [a1, a2, e1, a3]
  by_cases a4 : d.yb ≤ d.ya
  · simp [a1, a2, e1, e2, a3, a4]
  by_cases a5 : d.zb ≤ d.za
  · simp [a1, a2, e1, e2, e3, a3, a4, a5]
  have n1 : ¬ d.xb < d.xa := by omega
  have n2 : d.xa < d.xb := by omega
  have n3 : ¬ d.yb < d.ya := by omega
  have n4 : d.ya < d.yb := by omega
  have n5 : ¬ d.zb < d.za := by omega
  have n6 : d.za < d.zb := by omega
  rw [if_neg n1, if_pos n2] at i1
  rw [if_neg n3, if_pos n4] at i2
  rw [if_neg n5, if_pos n6] at i3
  by_cases b1 : d.xa < -600
  · have c1 : ¬ -600 ≤ d.xa := by omega
    simp [a1, a2, e1, e2, e3, a3, a4, a5, i1, b1, c1]
  have c1 : -600 ≤ d.xa := by omega
  by_cases b2 : 600 < d.xb
  · have c2 : ¬ d.xb ≤ 600 := by omega
    simp [a1, a2, e1, e2, e3, a3, a4, a5, i1, b1, c1, b2, c2]
  have c2 : d.xb ≤ 600 := by omega
  by_cases b3 : d.ya < -600
  · have c3 : ¬ -600 ≤ d.ya := by omega
    simp [a1, a2, e1, e2, e3, a3, a4, a5, i1, b1, c1, b2, c2, i2, b3, c3]
  have c3 : -600 ≤ d.ya := by omega
  by_cases b4 : 600 < d.yb
  · have c4 : ¬ d.yb ≤ 600 := by omega
    simp [a1, a2, e1, e2, e3, a3, a4, a5, i1, b1, c1, b2, c2, i2, b3, c3, b4, c4]
  have c4 : d.yb ≤ 600 := by omega
  by_cases b5 : d.za < 0
  · have c5 : ¬ 0 ≤ d.za := by omega
    simp [a1, a2, e1, e2, e3, a3, a4, a5, i1, b1, c1, b2, c2, i2, b3, c3, b4, c4, i3, b5, c5]
  have c5 : 0 ≤ d.za := by omega
  by_cases b6 : 20000 < d.zb
  · have c6 : ¬ d.zb ≤ 20000 := by omega
    simp [a1, a2, e1, e2, e3, a3, a4, a5, i1, b1, c1, b2, c2, i2, b3, c3, b4, c4, i3, b5, c5, b6, c6]
  have c6 : d.zb ≤ 20000 := by omega
  simp [a1, a2, e1, e2, e3, a3, a4, a5, i1, b1, c1, b2, c2, i2, b3, c3, b4, c4, i3, b5, c5, b6, c6]
theorem dfs_loop (l : List Dfc) (hl : l.length ≤ 1000) : ∀ (n i : Nat) (r : List Dfc), l.drop i = r → r.length < n →
    L_defect_Check 4 n ⟨[(0, .any), (2, .any), (4, .any), (5, .any), (9, .sl (l.map eDf)), (10, I l.length), (11, I i)], []⟩ =
      if dfsE r = 0 then some (.ex 0, ⟨[(0, .any), (2, .any), (4, .any), (5, .any), (9, .any), (10, .any), (11, .any)], []⟩)
      else some (.ret, ⟨[(0, .any), (2, I (dfsE r)), (4, .any), (5, .any), (9, .any), (10, .any), (11, .any)], []⟩)
  | 0, _, _, _, hn => by omega
  | n + 1, i, [], hr, hn => by
    rw [L_defect_Check_succ, R_defect_Check_eq]
    simp [dn hr, dfsE]
  | n + 1, i, x :: r, hr, hn => by
    rw [L_defect_Check_succ, R_defect_Check_eq]
    obtain ⟨h1, h3, hr', hi⟩ := dc (enc := eDf) hr
    have hw := wrapN (n := i) (by omega)
    have hc := dcheck_run x
    have ih := dfs_loop l hl n (i + 1) r hr' (by simp at hn; omega)
    simp at ih hc
    by_cases a1 : dfE x = 0
    · simp [h1, h3, hc, dfsE, a1, hw, ih]
    · simp [h1, h3, hc, dfsE, a1]
theorem checkDf_run (l : List Dfc) : F_defect_Check [.sl (l.map eDf)] = some (I (checkDf l)) := by
  rw [F_defect_Check_eq]
  unfold checkDf
  by_cases h : (64 : Int) < l.length
  · simp [h]
  · have ih := dfs_loop l (by omega) bigL 0 l rfl (by have := bigL_ge; omega)
    simp at ih
    by_cases h2 : dfsE l = 0
    · simp [h2] at ih
      simp [h, ih, h2]
    · simp [h2] at ih
      simp [h, ih, h2]
end Go.Proofs.YtldekjlihfidlaaGreatDoor
