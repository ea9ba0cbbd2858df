/-
  The chapter's statements, run abstractly: whether the inputs are short and valid; FeatureGets.
-/
import Derived.Test.YtjhlidaikegelaaGreatFtV
import Derived.Test.YtjhlidaikegelaaGreatFtX
namespace Go.Proofs.YtjhlidaikegelaaGreat
set_option linter.unusedSimpArgs false
set_option linter.unusedVariables false
open Go Go.Abs
set_option maxHeartbeats 8000000
set_option maxRecDepth 100000
def shP (i : Nat) : List Pd → Bool
  | [] => true
  | p :: r => if i < 20 ∧ p.lens.length ≤ 12 ∧ p.prs.length ≤ 12 ∧ p.name.size ≤ 100 then shP (i + 1) r else false
theorem short_loop (l : List Pd) (hl : l.length ≤ 9223372036854775807) : ∀ (n i : Nat) (r : List Pd), l.drop i = r → r.length < n →
    L_law19_Short 2 n ⟨[(0, .sl (l.map ePd)), (2, .any), (3, I i)], []⟩ =
      if shP i r = true then some (.ex 0, ⟨[(0, .any), (2, .any), (3, .any)], []⟩)
      else some (.ret, ⟨[(0, .any), (2, B false), (3, .any)], []⟩) := by
  refine lind l _ ?_ ?_
  · intro n i hr
    rw [L_law19_Short_succ, R_law19_Short_eq]
    simp [dn hr, shP]
  · intro n i p r hr hi ih
    rw [L_law19_Short_succ, R_law19_Short_eq]
    obtain ⟨h1, h3, hr', _⟩ := dc (enc := ePd) hr
    simp at ih
    unfold shP
    by_cases c1 : i < 20
    case neg =>
      have c1' : ¬ (i : Int) < 20 := by omega
      simp [h1, h3, c1, c1']
    have c1' : (i : Int) < 20 := by omega
    have hw := wrapN (n := i) (by omega)
    by_cases c2 : p.lens.length ≤ 12
    case neg =>
      have c2' : ¬ (p.lens.length : Int) ≤ 12 := by omega
      simp [h1, h3, c1, c1', c2, c2']
    have c2' : (p.lens.length : Int) ≤ 12 := by omega
    by_cases c3 : p.prs.length ≤ 12
    case neg =>
      have c3' : ¬ (p.prs.length : Int) ≤ 12 := by omega
      simp [h1, h3, c1, c1', c2, c2', c3, c3']
    have c3' : (p.prs.length : Int) ≤ 12 := by omega
    by_cases c4 : p.name.size ≤ 100
    case neg =>
      have c4' : (100 : Int) < p.name.size := by omega
      simp [h1, h3, c1, c1', c2, c2', c3, c3', c4, c4']
    have c4' : ¬ (100 : Int) < p.name.size := by omega
    simp [h1, h3, c1, c1', c2, c2', c3, c3', c4, c4', hw, ih]
theorem short_run (l : List Pd) (hl : l.length ≤ 9223372036854775807) : F_law19_Short [.sl (l.map ePd)] = some (B (shP 0 l)) := by
  rw [F_law19_Short_eq]
  have ih := short_loop l hl bigL 0 l rfl (by have := bigL_ge; omega)
  simp at ih
  cases h : shP 0 l
  · rw [h] at ih
    simp at ih
    simp [ih]
  · rw [h] at ih
    simp at ih
    simp [ih]
def shG (g : Gd) : Bool := decide ((g.b.dfs.length : Int) ≤ 70) && (shP 0 g.ps && (decide ((g.b.id.size : Int) ≤ 100) && (decide ((g.b.log.size : Int) ≤ 100) && (decide ((g.b.sp.size : Int) ≤ 100) && decide ((g.s.name.size : Int) ≤ 100)))))
theorem lshort_run (g : Gd) (hl : g.ps.length ≤ 9223372036854775807) : F_law42_short [.agg (eGd g)] = some (B (shG g)) := by
  rw [F_law42_short_eq]
  have h := short_run g.ps hl
  simp [h, shG]
theorem shG_d {g : Gd} (h : shG g = true) : g.b.dfs.length ≤ 70 := by
  unfold shG at h
  simp at h
  omega
def vaG (g : Gd) : Bool := decide (checkB g.b g.ps = 0) && decide (checkW g.s = 0)
theorem featsG_none {g : Gd} (h : vaG g = false) : featsG g = [] := by
  unfold featsG featsO
  rw [if_neg]
  rintro ⟨h1, h2⟩
  simp [vaG, h1, h2] at h
theorem featsG_some {g : Gd} (h : vaG g = true) : ∃ p, g.ps[g.b.prod.toNat]? = some p ∧ featsG g = feats g.b p g.s ∧ 0 ≤ g.b.prod ∧ checkDf g.b.dfs = 0 ∧ checkM g.b.cel = 0 ∧ boxB g.b = true ∧ checkW g.s = 0 := by
  unfold vaG at h
  simp at h
  obtain ⟨p, hp, h0, _, hr⟩ := checkB_zero h.1
  obtain ⟨h1, h2, h3, _⟩ := restE_zero hr
  refine ⟨p, hp, ?_, h0, h2, h3, h1, h.2⟩
  unfold featsG featsO
  rw [if_pos h, hp]
theorem feats_len (b : Bd) (p : Pd) (w : Spc) : (feats b p w).length = 18 := rfl
theorem featsG_len (g : Gd) : (featsG g).length ≤ 18 := by
  cases h : vaG g
  · rw [featsG_none h]
    decide
  · obtain ⟨p, _, e, _⟩ := featsG_some h
    rw [e, feats_len]
    exact Nat.le_refl _
/-! ### FeatureGets -/
end Go.Proofs.YtjhlidaikegelaaGreat
