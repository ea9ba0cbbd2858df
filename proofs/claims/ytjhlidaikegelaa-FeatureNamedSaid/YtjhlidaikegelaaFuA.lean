/-
  FeatureCounts, FeatureAgrees, FeatureNamed, run abstractly.
-/
import Derived.Test.YtjhlidaikegelaaFtZ
namespace Go.Proofs.Ytjhlidaikegelaa
set_option linter.unusedSimpArgs false
set_option linter.unusedVariables false
open Go Go.Abs
set_option maxHeartbeats 8000000
set_option maxRecDepth 100000
theorem get_thick (b : Bd) (p : Pd) (w : Spc) : getF nThick (feats b p w) = (p.thick, true) := rfl
theorem get_width (b : Bd) (p : Pd) (w : Spc) : getF nWidth (feats b p w) = (p.width, true) := rfl
theorem get_length (b : Bd) (p : Pd) (w : Spc) : getF nLength (feats b p w) = (lenN b, true) := rfl
theorem get_knots (b : Bd) (p : Pd) (w : Spc) : getF nKnots (feats b p w) = (cntD 1 0 b.dfs, true) := rfl
theorem get_dead (b : Bd) (p : Pd) (w : Spc) : getF nDead (feats b p w) = (cntD 2 0 b.dfs, true) := rfl
theorem get_rot (b : Bd) (p : Pd) (w : Spc) : getF nRot (feats b p w) = (cntD 3 0 b.dfs, true) := rfl
theorem get_cracks (b : Bd) (p : Pd) (w : Spc) : getF nCracks (feats b p w) = (cntD 4 0 b.dfs, true) := rfl
theorem get_resin (b : Bd) (p : Pd) (w : Spc) : getF nResin (feats b p w) = (cntD 5 0 b.dfs, true) := rfl
theorem get_insects (b : Bd) (p : Pd) (w : Spc) : getF nInsects (feats b p w) = (cntD 6 0 b.dfs, true) := rfl
theorem get_maxknot (b : Bd) (p : Pd) (w : Spc) : getF nMaxknot (feats b p w) = (lrgD 1 0 b.dfs, true) := rfl
theorem get_maxdead (b : Bd) (p : Pd) (w : Spc) : getF nMaxdead (feats b p w) = (lrgD 2 0 b.dfs, true) := rfl
theorem get_worst (b : Bd) (p : Pd) (w : Spc) : getF nWorst (feats b p w) = (worstD b.dfs, true) := rfl
theorem get_wane (b : Bd) (p : Pd) (w : Spc) : getF nWane (feats b p w) = (b.wane, true) := rfl
theorem get_checks (b : Bd) (p : Pd) (w : Spc) : getF nChecks (feats b p w) = (cracks b.cel w, true) := rfl
theorem get_moist (b : Bd) (p : Pd) (w : Spc) : getF nMoist (feats b p w) = (mean b.cel, true) := rfl
theorem get_gradient (b : Bd) (p : Pd) (w : Spc) : getF nGradient (feats b p w) = (grad b.cel, true) := rfl
theorem get_under (b : Bd) (p : Pd) (w : Spc) : getF nUnder (feats b p w) = ((if underB b p w = true then 1 else 0), true) := rfl
theorem get_stiff (b : Bd) (p : Pd) (w : Spc) : getF nStiff (feats b p w) = (stiffN b w, true) := rfl
theorem feats_at (b : Bd) (p : Pd) (w : Spc) (i : Nat) (x : ByteArray × Int) (h : (feats b p w)[i]? = some x) : nmsF[i]? = some x.1 ∧ getF x.1 (feats b p w) = (x.2, true) := by
  have hi := (List.getElem?_eq_some_iff.1 h).1
  rw [feats_len] at hi
  match i, hi, h with
  | 0, _, h => cases h; exact ⟨rfl, rfl⟩
  | 1, _, h => cases h; exact ⟨rfl, rfl⟩
  | 2, _, h => cases h; exact ⟨rfl, rfl⟩
  | 3, _, h => cases h; exact ⟨rfl, rfl⟩
  | 4, _, h => cases h; exact ⟨rfl, rfl⟩
  | 5, _, h => cases h; exact ⟨rfl, rfl⟩
  | 6, _, h => cases h; exact ⟨rfl, rfl⟩
  | 7, _, h => cases h; exact ⟨rfl, rfl⟩
  | 8, _, h => cases h; exact ⟨rfl, rfl⟩
  | 9, _, h => cases h; exact ⟨rfl, rfl⟩
  | 10, _, h => cases h; exact ⟨rfl, rfl⟩
  | 11, _, h => cases h; exact ⟨rfl, rfl⟩
  | 12, _, h => cases h; exact ⟨rfl, rfl⟩
  | 13, _, h => cases h; exact ⟨rfl, rfl⟩
  | 14, _, h => cases h; exact ⟨rfl, rfl⟩
  | 15, _, h => cases h; exact ⟨rfl, rfl⟩
  | 16, _, h => cases h; exact ⟨rfl, rfl⟩
  | 17, _, h => cases h; exact ⟨rfl, rfl⟩
/-! ### FeatureCounts -/
theorem sumk_loop (g : Gd) (l : List (ByteArray × Int)) (hl : g.b.dfs.length ≤ 64) (hd : ∀ d ∈ g.b.dfs, dfE d = 0) : ∀ (n i : Nat) (r : List Dfc), g.b.dfs.drop i = r → r.length < n → ∀ s : Int, 0 ≤ s → s ≤ 1200 * i →
    L_law42_FeatureCounts 8 n ⟨[(0, .any), (1, .ptr 1 0), (2, .any), (3, .own true (l.map eFt)), (4, I s), (5, I i), (6, .any)], [(1, .box 42 (eGd g))]⟩ =
      some (.ex 0, ⟨[(0, .any), (1, .ptr 1 0), (2, .any), (3, .own true (l.map eFt)), (4, I (sumK s r)), (5, .any), (6, .any)], [(1, .box 42 (eGd g))]⟩) := by
  refine lind g.b.dfs _ ?_ ?_
  · intro n i hr s h0 h1
    rw [L_law42_FeatureCounts_succ, R_law42_FeatureCounts_eq]
    simp [dn hr, sumK]
  · intro n i d r hr hi ih s h0 hs
    rw [L_law42_FeatureCounts_succ, R_law42_FeatureCounts_eq]
    obtain ⟨h1, h3, hr', _⟩ := dc (enc := eDf) hr
    have hw := wrapN (n := i) (by omega)
    obtain ⟨hg, hp, hb⟩ := dfE_rng (hd d (List.mem_of_mem_drop (hr ▸ List.mem_cons_self : d ∈ g.b.dfs.drop i)))
    have hz := dsize_run d hg
    have ws : IntKind.i64.wrap (s + sizeD d) = s + sizeD d := wrap64 (by omega) (by omega)
    unfold sumK knotB
    simp at hz
    by_cases c : d.kind = 1 ∨ d.kind = 2
    · have ih' := ih (s + sizeD d) (by omega) (by omega)
      simp at ih'
      rcases c with c | c
      · rw [c] at hz
        simp [h1, h3, c, hz, hw, ws, ih']
      · rw [c] at hz
        simp [h1, h3, c, hz, hw, ws, ih']
    · have ih' := ih s (by omega) (by omega)
      simp at ih'
      have c1 : ¬ d.kind = 1 := fun e => c (.inl e)
      have c2 : ¬ d.kind = 2 := fun e => c (.inr e)
      simp [h1, h3, c1, c2, hw, ih']
theorem counts_law (g : Gd) (ok : g.ps.length ≤ 9223372036854775807) : F_law42_FeatureCounts [.agg (eGd g)] = some (B true) := by
  rw [F_law42_FeatureCounts_eq]
  have hs := lshort_run g ok
  have ha := awake_run
  simp at hs
  cases h1 : shG g
  · simp [hs, h1, ha]
  have hv := valid_run g
  have ho := lof_run g
  simp at hv ho
  cases h2 : vaG g
  · rw [featsG_none h2] at ho
    simp at ho
    simp [hs, h1, hv, h2, ho, ha]
  obtain ⟨p, hp, e, h0, hdf, hcm, hbx, hcw⟩ := featsG_some h2
  have hl := checkDf_len hdf
  have hm := checkDf_mem hdf
  have ih := sumk_loop g (featsG g) hl hm bigL 0 g.b.dfs rfl (by have := bigL_ge; omega) 0 (by omega) (by omega)
  have hfl : (featsG g).length ≤ 1000 := by have := featsG_len g; omega
  have q := fun nm => lget_run (featsG g) nm hfl
  rw [e] at q ih ho
  have q_knots := q nKnots
  rw [get_knots] at q_knots
  have q_dead := q nDead
  rw [get_dead] at q_dead
  have q_rot := q nRot
  rw [get_rot] at q_rot
  have q_cracks := q nCracks
  rw [get_cracks] at q_cracks
  have q_resin := q nResin
  rw [get_resin] at q_resin
  have q_insects := q nInsects
  rw [get_insects] at q_insects
  have q_worst := q nWorst
  rw [get_worst] at q_worst
  have q_maxknot := q nMaxknot
  rw [get_maxknot] at q_maxknot
  have q_maxdead := q nMaxdead
  rw [get_maxdead] at q_maxdead
  unfold nKnots nDead nRot nCracks nResin nInsects nWorst nMaxknot nMaxdead at *
  clear q
  have hsum := cnt_sum g.b.dfs (fun d hd => (dfE_zero (hm d hd)).1)
  have hle := worst_le g.b.dfs hdf
  have hk1 := worst_ge g.b.dfs hdf 1 (.inl rfl)
  have hk2 := worst_ge g.b.dfs hdf 2 (.inr rfl)
  have b1 := cntD_bnd 1 g.b.dfs
  have b2 := cntD_bnd 2 g.b.dfs
  have b3 := cntD_bnd 3 g.b.dfs
  have b4 := cntD_bnd 4 g.b.dfs
  have b5 := cntD_bnd 5 g.b.dfs
  have b6 := cntD_bnd 6 g.b.dfs
  generalize feats g.b p g.s = l at *
  simp at ih
  generalize cntD 1 0 g.b.dfs = v1 at *
  generalize cntD 2 0 g.b.dfs = v2 at *
  generalize cntD 3 0 g.b.dfs = v3 at *
  generalize cntD 4 0 g.b.dfs = v4 at *
  generalize cntD 5 0 g.b.dfs = v5 at *
  generalize cntD 6 0 g.b.dfs = v6 at *
  generalize worstD g.b.dfs = wd at *
  generalize lrgD 1 0 g.b.dfs = l1 at *
  generalize lrgD 2 0 g.b.dfs = l2 at *
  generalize sumK 0 g.b.dfs = sk at *
  have w1 : IntKind.i64.wrap (v1 + v2) = v1 + v2 := wrap64 (by omega) (by omega)
  have w2 : IntKind.i64.wrap (v1 + v2 + v3) = v1 + v2 + v3 := wrap64 (by omega) (by omega)
  have w3 : IntKind.i64.wrap (v1 + v2 + v3 + v4) = v1 + v2 + v3 + v4 := wrap64 (by omega) (by omega)
  have w4 : IntKind.i64.wrap (v1 + v2 + v3 + v4 + v5) = v1 + v2 + v3 + v4 + v5 := wrap64 (by omega) (by omega)
  have w5 : IntKind.i64.wrap (v1 + v2 + v3 + v4 + v5 + v6) = g.b.dfs.length := by rw [hsum]; exact wrap64 (by omega) (by omega)
  have c1 : ¬ wd < (if l1 < l2 then l2 else l1) := by split <;> omega
  have c2 : (if l1 < l2 then l2 else l1) ≤ wd := by split <;> omega
  have c3 : ¬ sk < wd := by omega
  simp at ho q_knots q_dead q_rot q_cracks q_resin q_insects q_worst q_maxknot q_maxdead
  simp [hs, h1, hv, h2, ho, ih, q_knots, q_dead, q_rot, q_cracks, q_resin, q_insects, q_worst, q_maxknot, q_maxdead, w1, w2, w3, w4, w5, c1, c2, c3, hle, ha]
end Go.Proofs.Ytjhlidaikegelaa
