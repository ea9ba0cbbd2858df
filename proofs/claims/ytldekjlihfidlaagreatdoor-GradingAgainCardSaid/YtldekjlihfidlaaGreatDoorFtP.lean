/-
  Whether a board is one of a product of the catalog, in the reference, run abstractly.
-/
import Derived.Test.YtldekjlihfidlaaGreatDoorFtO
namespace Go.Proofs.YtldekjlihfidlaaGreatDoor
set_option linter.unusedSimpArgs false
set_option linter.unusedVariables false
open Go Go.Abs
set_option maxHeartbeats 8000000
set_option maxRecDepth 100000
theorem insB_eq (a b n : Int) : (decide (0 ≤ a) && (decide (a ≤ n) && (decide (0 ≤ b) && decide (b ≤ n)))) = insideB a b n := rfl
theorem rins_loop (b : Bd) (hl : b.dfs.length ≤ 1000) (hb : boxB b = true) : ∀ (n i : Nat) (r : List Dfc), b.dfs.drop i = r → r.length < n →
    L_ref30_Check 16 n ⟨[(0, .any), (1, .any), (2, .ptr 2 0), (4, .any), (5, .any), (6, .any), (7, I i), (8, .any)], [(2, .box 30 (eBd b))]⟩ =
      if insE (b.xb - b.xa) (b.yb - b.ya) (b.zb - b.za) r = true then some (.ex 0, ⟨[(0, .any), (1, .any), (2, .ptr 2 0), (4, .any), (5, .any), (6, .any), (7, .any), (8, .any)], [(2, .box 30 (eBd b))]⟩)
      else some (.ret, ⟨[(0, .any), (1, .any), (2, .any), (4, I 9), (5, .any), (6, .any), (7, .any), (8, .any)], []⟩) := by
  obtain ⟨k1, k2, k3⟩ := box_bnd hb
  obtain ⟨w1, p1⟩ := cross_bnd k1
  obtain ⟨w2, p2⟩ := cross_bnd k2
  obtain ⟨w3, p3⟩ := along_bnd k3
  have l1 := rlength_run b.xa b.xb
  have l2 := rlength_run b.ya b.yb
  have l3 := rlength_run b.za b.zb
  rw [w1] at l1
  rw [w2] at l2
  rw [w3] at l3
  refine lind b.dfs _ ?_ ?_
  · intro n i hr
    rw [L_ref30_Check_succ, R_ref30_Check_eq]
    simp [dn hr, insE]
  · intro n i d r hr hi ih
    rw [L_ref30_Check_succ, R_ref30_Check_eq]
    obtain ⟨h1, h3, hr', _⟩ := dc (enc := eDf) hr
    have hw := wrapN (n := i) (by omega)
    simp at ih
    unfold insE
    have i1 := within_run d.xa d.xb 0 (b.xb - b.xa)
    have i2 := within_run d.ya d.yb 0 (b.yb - b.ya)
    have i3 := within_run d.za d.zb 0 (b.zb - b.za)
    rw [insB_eq] at i1 i2 i3
    cases c1 : insideB d.xa d.xb (b.xb - b.xa)
    · rw [c1] at i1
      simp [h1, h3, l1, i1]
    rw [c1] at i1
    cases c2 : insideB d.ya d.yb (b.yb - b.ya)
    · rw [c2] at i2
      simp [h1, h3, l1, l2, i1, i2]
    rw [c2] at i2
    cases c3 : insideB d.za d.zb (b.zb - b.za)
    · rw [c3] at i3
      simp [h1, h3, l1, l2, l3, i1, i2, i3]
    · rw [c3] at i3
      simp [h1, h3, l1, l2, l3, i1, i2, i3, hw, ih]
theorem rest_num' (b : Bd) (vol : Int) : (if 0 ≤ b.vol then if b.vol ≤ vol then if 0 ≤ b.wane then if 1000 < b.wane then (9 : Int) else if 0 ≤ b.cel.s then if b.cel.s ≤ 20000 then if 0 ≤ b.cel.c then if b.cel.c ≤ 20000 then if 0 ≤ b.cel.st then if 1099511627776 < b.cel.st then 25 else if 0 ≤ b.grade then if 9 < b.grade then 26 else 0 else 26 else 25 else 25 else 25 else 25 else 25 else 9 else 9 else 9) = if b.vol < 0 then 9 else if vol < b.vol then 9 else if b.wane < 0 then 9 else if 1000 < b.wane then 9 else if checkM b.cel = 0 then if b.grade < 0 then 26 else if 9 < b.grade then 26 else 0 else 25 := by
  have hz := checkM_zero (x := b.cel)
  by_cases hm : checkM b.cel = 0
  · have h := hz.1 hm
    simp only [hm, eq_self, if_true, if_false]
    repeat' split
    all_goals first | rfl | omega
  · have h : ¬ ((0 ≤ b.cel.s ∧ b.cel.s ≤ 20000) ∧ (0 ≤ b.cel.c ∧ b.cel.c ≤ 20000) ∧ (0 ≤ b.cel.st ∧ b.cel.st ≤ 1099511627776)) := fun h => hm (hz.2 h)
    simp only [hm, eq_self, if_true, if_false]
    repeat' split
    all_goals first | rfl | omega
theorem rrest_run (b : Bd) (p : Pd) (c : List Pd) (hp : checkPd c = 0) (hn : (isC b.id 66 && (isC b.log 76 && isNm b.sp)) = true) (h0 : 0 ≤ b.prod) (h2 : c[b.prod.toNat]? = some p) (hl : p.lens.length ≤ 1000) : F_ref30_Check [.agg (eBd b), .sl (c.map ePd)] = some (I (restE b p)) := by
  rw [F_ref30_Check_eq]
  have hpr := rcheckPd_run c
  have hx := placed_run b.xa b.xb b.ya b.yb b.za b.zb
  rw [← boxB_eq] at hx
  have e1 := risC_run b.id 66
  have e2 := risC_run b.log 76
  have e3 := rname_run b.sp
  simp only [Bool.and_eq_true] at hn
  obtain ⟨n1, n2, n3⟩ := hn
  rw [n1] at e1
  rw [n2] at e2
  rw [n3] at e3
  rw [hp] at hpr
  have h3 : ¬ b.prod < 0 := by omega
  have h4 : b.prod.toNat < c.length := (List.getElem?_eq_some_iff.1 h2).1
  have h5 : ¬ (c.length : Int) ≤ b.prod := by omega
  have h6 : (c.map ePd)[b.prod.toNat]? = some (ePd p) := by rw [List.getElem?_map, h2]; rfl
  cases hb : boxB b
  · rw [hb] at hx
    simp [hpr, e1, e2, e3, h3, h5, hx, hb, restE]
  rw [hb] at hx
  obtain ⟨k1, k2, k3⟩ := box_bnd hb
  obtain ⟨w3, p3⟩ := along_bnd k3
  have l3 := rlength_run b.za b.zb
  rw [w3] at l3
  have hg := rfit_run b p hb
  have hc := has_run p.lens (b.zb - b.za) (by omega)
  have hd := rcheckDf_run b.dfs
  have hv := rvolume_run b
  have il : b.dfs.length ≤ 1000 → _ := fun h => rins_loop b h hb bigL 0 b.dfs rfl (by have := bigL_ge; omega)
  simp only [restE, hb, if_true]
  simp at hg hv
  cases hf : fitB b p
  · rw [hf] at hg
    simp [hpr, e1, e2, e3, h0, h3, h5, h6, hx, hg]
  rw [hf] at hg
  simp only [if_true]
  cases hi : inI (b.zb - b.za) p.lens
  · rw [hi] at hc
    simp [hpr, e1, e2, e3, h0, h3, h5, h6, hx, l3, hg, hc]
  rw [hi] at hc
  simp only [if_true]
  by_cases hz : checkDf b.dfs = 0
  · have il' := il (by have := checkDf_len hz; omega)
    rw [hz] at hd
    simp only [hz, if_true]
    by_cases hin : insE (b.xb - b.xa) (b.yb - b.ya) (b.zb - b.za) b.dfs = true
    · rw [if_pos hin] at il'
      rw [if_pos hin]
      simp at il'
      simp (config := { maxSteps := 3000000 }) [hpr, e1, e2, e3, h0, h3, h5, h6, hx, l3, hg, hc, hd, il', hv]
      exact rest_num' b (volB b)
    · rw [if_neg hin] at il'
      rw [if_neg hin]
      simp at il'
      simp [hpr, e1, e2, e3, h0, h3, h5, h6, hx, l3, hg, hc, hd, il']
  · rw [if_neg hz]
    simp [hpr, e1, e2, e3, h0, h3, h5, h6, hx, l3, hg, hc, hd, hz]
theorem rbcheck_run (b : Bd) (c : List Pd) : F_ref30_Check [.agg (eBd b), .sl (c.map ePd)] = some (I (checkB b c)) := by
  have hpr := rcheckPd_run c
  have e1 := risC_run b.id 66
  have e2 := risC_run b.log 76
  have e3 := rname_run b.sp
  unfold checkB
  by_cases hp : checkPd c = 0
  · rw [if_pos hp]
    rw [hp] at hpr
    by_cases hn : (isC b.id 66 && (isC b.log 76 && isNm b.sp)) = true
    · rw [if_pos hn]
      have hn0 := hn
      simp only [Bool.and_eq_true] at hn0
      obtain ⟨n1, n2, n3⟩ := hn0
      rw [n1] at e1
      rw [n2] at e2
      rw [n3] at e3
      by_cases h0 : b.prod < 0
      · rw [if_pos h0, F_ref30_Check_eq]
        simp [hpr, e1, e2, e3, h0]
      rw [if_neg h0]
      cases h2 : c[b.prod.toNat]? with
      | none =>
        have h4 := List.getElem?_eq_none_iff.1 h2
        have h5 : (c.length : Int) ≤ b.prod := by omega
        rw [F_ref30_Check_eq]
        simp [hpr, e1, e2, e3, h0, h5]
      | some p => exact rrest_run b p c hp hn (by omega) h2 (by have := checkPd_lens hp h2; omega)
    · rw [if_neg hn, F_ref30_Check_eq]
      cases n1 : isC b.id 66
      · rw [n1] at e1
        simp [hpr, e1]
      rw [n1] at e1
      cases n2 : isC b.log 76
      · rw [n2] at e2
        simp [hpr, e1, e2]
      rw [n2] at e2
      cases n3 : isNm b.sp
      · rw [n3] at e3
        simp [hpr, e1, e2, e3]
      · simp [n1, n2, n3] at hn
  · rw [if_neg hp, F_ref30_Check_eq]
    simp [hpr, hp]
end Go.Proofs.YtldekjlihfidlaaGreatDoor
