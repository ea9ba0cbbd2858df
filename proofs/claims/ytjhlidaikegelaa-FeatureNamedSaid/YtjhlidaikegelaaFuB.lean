/-
  FeatureAgrees, FeatureNamed, run abstractly.
-/
import Derived.Test.YtjhlidaikegelaaFuA
namespace Go.Proofs.Ytjhlidaikegelaa
set_option linter.unusedSimpArgs false
set_option linter.unusedVariables false
open Go Go.Abs
set_option maxHeartbeats 8000000
set_option maxRecDepth 100000
theorem agrees_law (g : Gd) (ok : g.ps.length ≤ 9223372036854775807) : F_law42_FeatureAgrees [.agg (eGd g)] = some (B true) := by
  rw [F_law42_FeatureAgrees_eq]
  have hs := lshort_run g ok
  have ha := awake_run
  simp at hs
  cases h1 : shG g
  · simp [hs, h1, ha]
  have hv := valid_run g
  have ho := lof_run g
  simp at hv ho
  cases h2 : vaG g
  · simp [hs, h1, hv, h2, ha]
  obtain ⟨p, hp, e, h0, hdf, hcm, hbx, hcw⟩ := featsG_some h2
  have hfl : (featsG g).length ≤ 1000 := by have := featsG_len g; omega
  have hln : (featsG g).length = 18 := by rw [e]; rfl
  have q := fun nm => lget_run (featsG g) nm hfl
  rw [e] at q ho hln
  have q1 := q nThick
  rw [get_thick] at q1
  have q2 := q nWidth
  rw [get_width] at q2
  have q3 := q nWane
  rw [get_wane] at q3
  have q4 := q nUnder
  rw [get_under] at q4
  have q5 := q nMoist
  rw [get_moist] at q5
  have q6 := q nGradient
  rw [get_gradient] at q6
  have q7 := q nChecks
  rw [get_checks] at q7
  have q8 := q nStiff
  rw [get_stiff] at q8
  unfold nThick nWidth nWane nUnder nMoist nGradient nChecks nStiff at *
  clear q
  obtain ⟨k1, k2, k3⟩ := box_bnd hbx
  obtain ⟨wl, ws, wk⟩ := checkW_zero hcw
  have m1 := cracks_run g.b.cel g.s
  have m2 := mean_run g.b.cel
  have m3 := grad_run g.b.cel
  have u1 := under_run g.b p g.s k1 k2 wk
  have s1 := stiff_run g.b g.s k1 k2 hcm wl ws
  have h6 : (g.ps.map ePd)[g.b.prod.toNat]? = some (ePd p) := by rw [List.getElem?_map, hp]; rfl
  generalize feats g.b p g.s = l at *
  generalize cracks g.b.cel g.s = v13 at *
  generalize mean g.b.cel = v14 at *
  generalize grad g.b.cel = v15 at *
  generalize underB g.b p g.s = v16 at *
  generalize stiffN g.b g.s = v17 at *
  simp at m1 m2 m3 u1 s1 q1 q2 q3 q4 q5 q6 q7 q8
  cases v16
  · simp at q4
    simp [hs, h1, hv, h2, ho, hln, h0, h6, q1, q2, q3, q4, q5, q6, q7, q8, m1, m2, m3, u1, s1, ha]
  · simp at q4
    simp [hs, h1, hv, h2, ho, hln, h0, h6, q1, q2, q3, q4, q5, q6, q7, q8, m1, m2, m3, u1, s1, ha]
/-! ### FeatureNamed -/
theorem named_loop (b : Bd) (p : Pd) (w : Spc) : ∀ (n i : Nat) (r : List (ByteArray × Int)), (feats b p w).drop i = r → r.length < n →
    L_law42_FeatureNamed 9 n ⟨[(0, .any), (1, .any), (2, .any), (3, .own true ((feats b p w).map eFt)), (4, .own true (nmsF.map eNm)), (5, I i), (6, .any), (7, .any)], []⟩ =
      some (.ex 0, ⟨[(0, .any), (1, .any), (2, .any), (3, .any), (4, .any), (5, .any), (6, .any), (7, .any)], []⟩) := by
  have hfl := feats_len b p w
  have hnl : nmsF.length = 18 := rfl
  refine lind (feats b p w) _ ?_ ?_
  · intro n i hr
    rw [L_law42_FeatureNamed_succ, R_law42_FeatureNamed_eq]
    simp [dn hr]
  · intro n i x r hr hi ih
    rw [L_law42_FeatureNamed_succ, R_law42_FeatureNamed_eq]
    obtain ⟨h1, h3, hr', _⟩ := dc (enc := eFt) hr
    have hx : (feats b p w)[i]? = some x := by
      have := congrArg List.head? hr
      simpa [List.head?_drop] using this
    obtain ⟨f1, f2⟩ := feats_at b p w i x hx
    have h4 : (nmsF.map eNm)[i]? = some (eNm x.1) := by rw [List.getElem?_map, f1]; rfl
    have h5 : (i : Int) < nmsF.length := by omega
    have hw := wrapN (n := i) (by omega)
    have hg := get_run (feats b p w) x.1 (by omega)
    rw [f2] at hg
    generalize feats b p w = l at *
    generalize nmsF = ns at *
    simp at ih hg
    simp [h1, h3, h4, h5, hg, hw, ih]
theorem named_law (g : Gd) (ok : g.ps.length ≤ 9223372036854775807) : F_law42_FeatureNamed [.agg (eGd g)] = some (B true) := by
  rw [F_law42_FeatureNamed_eq]
  have hs := lshort_run g ok
  have ha := awake_run
  simp at hs
  cases h1 : shG g
  · simp [hs, h1, ha]
  have hv := valid_run g
  have ho := lof_run g
  have hn := names_run
  simp at hv ho
  cases h2 : vaG g
  · rw [featsG_none h2] at ho
    simp at ho
    simp [hs, h1, hv, h2, ho, hn, ha]
  obtain ⟨p, hp, e, h0, hdf, hcm, hbx, hcw⟩ := featsG_some h2
  have hfl := feats_len g.b p g.s
  have hnl : nmsF.length = 18 := rfl
  have ih := named_loop g.b p g.s bigL 0 (feats g.b p g.s) rfl (by have := bigL_ge; omega)
  rw [e] at ho
  generalize feats g.b p g.s = l at *
  generalize nmsF = ns at *
  simp at ih ho
  simp [hs, h1, hv, h2, ho, hn, hfl, hnl, ih, ha]
end Go.Proofs.Ytjhlidaikegelaa
