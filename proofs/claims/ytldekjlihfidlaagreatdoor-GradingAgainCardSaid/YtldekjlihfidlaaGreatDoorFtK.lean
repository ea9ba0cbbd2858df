/-
  The reference's defects and the boards' boxes, run abstractly.
-/
import Derived.Test.YtldekjlihfidlaaGreatDoorFtD
namespace Go.Proofs.YtldekjlihfidlaaGreatDoor
set_option linter.unusedSimpArgs false
set_option linter.unusedVariables false
open Go Go.Abs
set_option maxHeartbeats 8000000
set_option maxRecDepth 100000
theorem rempty_run (xa xb ya yb za zb : Int) : F_ref13_Empty [.agg [I xa, I xb, I ya, I yb, I za, I zb]] = some (B (decide (xb ≤ xa) || (decide (yb ≤ ya) || decide (zb ≤ za)))) := by
  rw [F_ref13_Empty_eq]
  have e : ∀ a b : Int, decide (b ≤ a) = !decide (a < b) := by
    intro a b
    by_cases h : a < b
    · have h' : ¬ b ≤ a := by omega
      simp [h, h']
    · have h' : b ≤ a := by omega
      simp [h, h']
  rw [e xa xb, e ya yb]
  simp
theorem rin_run (a b lo hi : Int) : F_ref13_in [.agg [I a, I b], I lo, I hi] = some (B (decide (lo ≤ a) && decide (b ≤ hi))) := by
  rw [F_ref13_in_eq]
  simp
theorem rranged_run (xa xb ya yb za zb : Int) : F_ref13_Ranged [.agg [I xa, I xb, I ya, I yb, I za, I zb]] = some (B ((decide (-600 ≤ xa) && decide (xb ≤ 600)) && ((decide (-600 ≤ ya) && decide (yb ≤ 600)) && (decide (0 ≤ za) && decide (zb ≤ 20000))))) := by
  rw [F_ref13_Ranged_eq]
  have i1 := rin_run xa xb (-600) 600
  have i2 := rin_run ya yb (-600) 600
  have i3 := rin_run za zb 0 20000
  generalize (decide (-600 ≤ xa) && decide (xb ≤ 600)) = b1 at *
  generalize (decide (-600 ≤ ya) && decide (yb ≤ 600)) = b2 at *
  generalize (decide (0 ≤ za) && decide (zb ≤ 20000)) = b3 at *
  cases b1 <;> cases b2 <;> simp [i1, i2, i3]
theorem rdfs_loop (l : List Dfc) (hl : l.length ≤ 1000) : ∀ (n i : Nat) (r : List Dfc), l.drop i = r → r.length < n →
    L_ref13_Check 4 n ⟨[(0, .sl (l.map eDf)), (2, .any), (3, I i)], []⟩ =
      if dfsE r = 0 then some (.ex 0, ⟨[(0, .any), (2, .any), (3, .any)], []⟩)
      else some (.ret, ⟨[(0, .any), (2, I (dfsE r)), (3, .any)], []⟩)
  | 0, _, _, _, hn => by omega
  | n + 1, i, [], hr, hn => by
    rw [L_ref13_Check_succ, R_ref13_Check_eq]
    simp [dn hr, dfsE]
  | n + 1, i, x :: r, hr, hn => by
    rw [L_ref13_Check_succ, R_ref13_Check_eq]
    obtain ⟨h1, h3, hr', hi⟩ := dc (enc := eDf) hr
    have hw := wrapN (n := i) (by omega)
    have he := rempty_run x.xa x.xb x.ya x.yb x.za x.zb
    have hg := rranged_run x.xa x.xb x.ya x.yb x.za x.zb
    have ih := rdfs_loop l hl n (i + 1) r hr' (by simp at hn; omega)
    simp at ih
    unfold dfsE dfE
    by_cases a1 : x.kind < 1
    · simp [h1, h3, a1]
    by_cases a2 : 6 < x.kind
    · simp [h1, h3, a1, a2]
    by_cases a3 : x.xb ≤ x.xa
    · simp [a3] at he
      simp [h1, h3, a1, a2, he, a3]
    by_cases a4 : x.yb ≤ x.ya
    · simp [a3, a4] at he
      simp [h1, h3, a1, a2, he, a3, a4]
    by_cases a5 : x.zb ≤ x.za
    · simp [a3, a4, a5] at he
      simp [h1, h3, a1, a2, he, a3, a4, a5]
    simp [a3, a4, a5] at he
    by_cases b : (-600 ≤ x.xa ∧ x.xb ≤ 600) ∧ (-600 ≤ x.ya ∧ x.yb ≤ 600) ∧ 0 ≤ x.za ∧ x.zb ≤ 20000
    · have c1 : ¬ x.xa < -600 := by omega
      have c2 : ¬ 600 < x.xb := by omega
      have c3 : ¬ x.ya < -600 := by omega
      have c4 : ¬ 600 < x.yb := by omega
      have c5 : ¬ x.za < 0 := by omega
      have c6 : ¬ 20000 < x.zb := by omega
      simp [b] at hg
      simp [h1, h3, a1, a2, he, hg, a3, a4, a5, c1, c2, c3, c4, c5, c6, hw, ih]
    · have hb : ((decide (-600 ≤ x.xa) && decide (x.xb ≤ 600)) && ((decide (-600 ≤ x.ya) && decide (x.yb ≤ 600)) && (decide (0 ≤ x.za) && decide (x.zb ≤ 20000)))) = false := by
        simp only [← Bool.not_eq_true, Bool.and_eq_true, decide_eq_true_eq]
        exact b
      rw [hb] at hg
      have e9 : (if x.xa < -600 then (9 : Int) else if 600 < x.xb then 9 else if x.ya < -600 then 9 else if 600 < x.yb then 9 else if x.za < 0 then 9 else if 20000 < x.zb then 9 else 0) = 9 := by
        repeat' split
        all_goals first | rfl | omega
      rw [if_neg a1, if_neg a2, if_neg a3, if_neg a4, if_neg a5, e9]
      simp [h1, h3, a1, a2, he, hg]
theorem rcheckDf_run (l : List Dfc) : F_ref13_Check [.sl (l.map eDf)] = some (I (checkDf l)) := by
  rw [F_ref13_Check_eq]
  unfold checkDf
  by_cases h : (64 : Int) < l.length
  · simp [h]
  · have ih := rdfs_loop l (by omega) bigL 0 l rfl (by have := bigL_ge; omega)
    simp at ih
    by_cases h2 : dfsE l = 0
    · simp [h2] at ih
      simp [h, ih, h2]
    · simp [h2] at ih
      simp [h, ih, h2]
end Go.Proofs.YtldekjlihfidlaaGreatDoor
