/-
  The reference's sizes, stiffness and features, run abstractly; FeatureOfs.
-/
import Derived.Test.YtjhlidaikegelaaGreatFvA
import Derived.Test.YtjhlidaikegelaaGreatFtZ
import Derived.Test.YtjhlidaikegelaaGreatFuC
import Derived.Test.YtjhlidaikegelaaGreatFtY
namespace Go.Proofs.YtjhlidaikegelaaGreat
set_option linter.unusedSimpArgs false
set_option linter.unusedVariables false
open Go Go.Abs
set_option maxHeartbeats 8000000
set_option maxRecDepth 100000
theorem rlenN_run (b : Bd) (h : alongB b.za b.zb = true) : F_ref30_Length [.agg (eBd b)] = some (I (lenN b)) := by
  rw [F_ref30_Length_eq]
  have h2 := rlength_run b.za b.zb
  have h1 := within_run b.za b.zb 0 20000
  obtain ⟨w, p⟩ := along_bnd h
  rw [w] at h2
  have hb : (decide (0 ≤ b.za) && (decide (b.za ≤ 20000) && (decide (0 ≤ b.zb) && decide (b.zb ≤ 20000)))) = true := by
    simp [alongB] at h
    simp
    omega
  rw [hb] at h1
  have c : ¬ b.zb - b.za < 0 := by omega
  have c' : 0 < b.zb - b.za := by omega
  have c2 : b.za < b.zb := by omega
  unfold lenN
  simp [h, h1, h2, c, c', c2]
theorem placed39_run (a b : Int) : F_ref39_placed [.agg [I a, I b]] = some (B (crossB a b)) := by
  rw [F_ref39_placed_eq]
  simp
  rw [Bool.eq_iff_iff]
  simp [crossB]
  omega
theorem sizes_run (xa xb ya yb za zb : Int) (hx : crossB xa xb = true) (hy : crossB ya yb = true) : F_ref39_Sizes [.agg [I xa, I xb, I ya, I yb, I za, I zb]] = some (.tup [I (minI (xb - xa) (yb - ya)), I (maxI (xb - xa) (yb - ya))]) := by
  rw [F_ref39_Sizes_eq]
  have h1 := placed39_run xa xb
  have h2 := placed39_run ya yb
  rw [hx] at h1
  rw [hy] at h2
  obtain ⟨w1, _⟩ := cross_bnd hx
  obtain ⟨w2, _⟩ := cross_bnd hy
  unfold minI maxI
  simp [h1, h2, w1, w2]
theorem rshrunk_run (w : Spc) (z m : Int) (hz : 0 ≤ z ∧ z ≤ 20000) (hs : 0 ≤ w.shrink ∧ w.shrink ≤ 200) : F_ref34_Shrunk [.agg (eS w), I z, I m] = some (I (shrN w z m)) := by
  rw [F_ref34_Shrunk_eq]
  obtain ⟨b1, b2⟩ := shr_bnd (m := m) hz hs
  have hc := clamp3_bnd m
  have f1 := from34_run z 0 20000
  have f2 := from34_run w.shrink 0 200
  have hb1 : (decide (0 ≤ z) && decide (z ≤ 20000)) = true := by simp; omega
  have hb2 : (decide (0 ≤ w.shrink) && decide (w.shrink ≤ 200)) = true := by simp; omega
  rw [hb1] at f1
  rw [hb2] at f2
  have e0 : (if 3000 < (if m < 0 then 0 else m) then 3000 else (if m < 0 then 0 else m)) = clampN m 0 3000 := by
    unfold clampN
    repeat' split
    all_goals omega
  have w1 : IntKind.i64.wrap (3000 - clampN m 0 3000) = 3000 - clampN m 0 3000 := wrap64 (by omega) (by omega)
  have w2 : IntKind.i64.wrap (z * w.shrink) = z * w.shrink := wrap64 (by omega) (by omega)
  unfold shrN
  generalize clampN m 0 3000 = q at *
  have w3 : IntKind.i64.wrap (z * w.shrink * (3000 - q)) = z * w.shrink * (3000 - q) := wrap64 (by omega) (by omega)
  have e : (z * w.shrink * (3000 - q)).tdiv 3000000 = z * w.shrink * (3000 - q) / 3000000 := Int.tdiv_eq_ediv_of_nonneg (by omega)
  have w4 : IntKind.i64.wrap (z * w.shrink * (3000 - q) / 3000000) = z * w.shrink * (3000 - q) / 3000000 := wrap64 (by omega) (by omega)
  have w5 : IntKind.i64.wrap (z - z * w.shrink * (3000 - q) / 3000000) = z - z * w.shrink * (3000 - q) / 3000000 := wrap64 (by omega) (by omega)
  simp [f1, f2, e0, w1, w2, w3, e, w4, w5]
theorem rdried_run (b : Bd) (w : Spc) (hx : crossB b.xa b.xb = true) (hy : crossB b.ya b.yb = true) (hs : 0 ≤ w.shrink ∧ w.shrink ≤ 200) :
    F_ref39_Dried [.agg (eBd b), .agg (eS w)] = some (.tup [I (shrN w (minI (b.xb - b.xa) (b.yb - b.ya)) (mean b.cel)), I (shrN w (maxI (b.xb - b.xa) (b.yb - b.ya)) (mean b.cel))]) := by
  rw [F_ref39_Dried_eq]
  obtain ⟨w1, p1⟩ := cross_bnd hx
  obtain ⟨w2, p2⟩ := cross_bnd hy
  have hz := sizes_run b.xa b.xb b.ya b.yb b.za b.zb hx hy
  have hm := rmean_run b.cel
  have q1 : 0 < minI (b.xb - b.xa) (b.yb - b.ya) ∧ minI (b.xb - b.xa) (b.yb - b.ya) ≤ 1200 := by unfold minI; split <;> omega
  have q2 : 0 < maxI (b.xb - b.xa) (b.yb - b.ya) ∧ maxI (b.xb - b.xa) (b.yb - b.ya) ≤ 1200 := by unfold maxI; split <;> omega
  have s1 := rshrunk_run w (minI (b.xb - b.xa) (b.yb - b.ya)) (mean b.cel) (by omega) hs
  have s2 := rshrunk_run w (maxI (b.xb - b.xa) (b.yb - b.ya)) (mean b.cel) (by omega) hs
  generalize minI (b.xb - b.xa) (b.yb - b.ya) = t at *
  generalize maxI (b.xb - b.xa) (b.yb - b.ya) = u at *
  have c : ¬ t = 0 := by omega
  simp at hm s1 s2
  simp [hz, hm, c, s1, s2]
theorem runder_run (b : Bd) (p : Pd) (w : Spc) (hx : crossB b.xa b.xb = true) (hy : crossB b.ya b.yb = true) (hs : 0 ≤ w.shrink ∧ w.shrink ≤ 200) :
    F_ref39_Under [.agg (eBd b), .agg (ePd p), .agg (eS w)] = some (B (underB b p w)) := by
  rw [F_ref39_Under_eq]
  have h := rdried_run b w hx hy hs
  unfold underB
  generalize shrN w (minI (b.xb - b.xa) (b.yb - b.ya)) (mean b.cel) = t at *
  generalize shrN w (maxI (b.xb - b.xa) (b.yb - b.ya)) (mean b.cel) = u at *
  simp at h
  simp [h]
  by_cases c : p.thick ≤ t
  · have c' : ¬ t < p.thick := by omega
    simp [c, c']
  · have c' : t < p.thick := by omega
    simp [c, c']
theorem rwidth_run (b : Bd) (hx : crossB b.xa b.xb = true) (hy : crossB b.ya b.yb = true) : F_ref41_Width [.agg (eBd b)] = some (I (maxI (b.xb - b.xa) (b.yb - b.ya))) := by
  rw [F_ref41_Width_eq]
  obtain ⟨e1, j1, j2⟩ := lenS_cross hx
  obtain ⟨e2, j3, j4⟩ := lenS_cross hy
  have l1 := rlen3_run b.xa b.xb j1 j2
  have l2 := rlen3_run b.ya b.yb j3 j4
  rw [e1] at l1
  rw [e2] at l2
  simp [l1, l2, maxI]
theorem rknots_run (b : Bd) (hx : crossB b.xa b.xb = true) (hy : crossB b.ya b.yb = true) : F_ref41_Knots [.agg (eBd b)] = some (I (knotsN b)) := by
  rw [F_ref41_Knots_eq]
  obtain ⟨_, p1⟩ := cross_bnd hx
  obtain ⟨_, p2⟩ := cross_bnd hy
  have hwd := rwidth_run b hx hy
  have hw := rworst_run b.dfs
  obtain ⟨b1, b2⟩ := worstD_bnd b.dfs
  have hq : 0 < maxI (b.xb - b.xa) (b.yb - b.ya) := by unfold maxI; split <;> omega
  unfold knotsN
  generalize maxI (b.xb - b.xa) (b.yb - b.ya) = q at *
  generalize worstD b.dfs = wd at *
  have w1 : IntKind.i64.wrap (wd * 1000) = wd * 1000 := wrap64 (by omega) (by omega)
  have e : (wd * 1000).tdiv q = wd * 1000 / q := Int.tdiv_eq_ediv_of_nonneg (by omega)
  have h1 : 0 ≤ wd * 1000 / q := Int.ediv_nonneg (by omega) (by omega)
  have h2 : wd * 1000 / q ≤ wd * 1000 := Int.ediv_le_self _ (by omega)
  have w2 : IntKind.i64.wrap (wd * 1000 / q) = wd * 1000 / q := wrap64 (by omega) (by omega)
  have c1 : ¬ q < 1 := by omega
  have c2 : ¬ q = 0 := by omega
  have e3 : (if wd * 1000 / q < 1000 then wd * 1000 / q else 1000) = minI (wd * 1000 / q) 1000 := by
    unfold minI
    repeat' split
    all_goals omega
  simp at hwd
  simp [hwd, c1, c2, hw, w1, e, w2, e3]
theorem rstiff_run (b : Bd) (w : Spc) (hx : crossB b.xa b.xb = true) (hy : crossB b.ya b.yb = true) (hm : checkM b.cel = 0) (hl : 0 ≤ w.loss ∧ w.loss ≤ 1000) (hs : 1000 ≤ w.stiff ∧ w.stiff ≤ 30000) :
    F_ref41_Stiffness [.agg (eBd b), .agg (eS w)] = some (I (stiffN b w)) := by
  rw [F_ref41_Stiffness_eq]
  have hk := rknots_run b hx hy
  have kb := knotsN_bnd b hx
  have hmn := rmean_run b.cel
  have mb : 0 ≤ mean b.cel ∧ mean b.cel ≤ 20000 := by
    obtain ⟨h1, h2, _⟩ := checkM_zero.1 hm
    unfold mean
    rw [if_pos hm]
    omega
  unfold stiffN
  simp at hk hmn
  generalize mean b.cel = mn at *
  generalize knotsN b = k at *
  have h1 : w.loss * k ≤ 1000 * 1000 := Int.mul_le_mul hl.2 kb.2 kb.1 (by omega)
  have h2 : 0 ≤ w.loss * k := Int.mul_nonneg hl.1 kb.1
  have w1 : IntKind.i64.wrap (w.loss * k) = w.loss * k := wrap64 (by omega) (by omega)
  have e1 : (w.loss * k).tdiv 1000 = w.loss * k / 1000 := Int.tdiv_eq_ediv_of_nonneg h2
  have w2 : IntKind.i64.wrap (w.loss * k / 1000) = w.loss * k / 1000 := wrap64 (by omega) (by omega)
  generalize hq : w.loss * k / 1000 = q at *
  have q0 : 0 ≤ q ∧ q ≤ 1000 := by omega
  have w3 : IntKind.i64.wrap (1000 - q) = 1000 - q := wrap64 (by omega) (by omega)
  have h3 : w.stiff * (1000 - q) ≤ 30000 * 1000 := Int.mul_le_mul hs.2 (by omega) (by omega) (by omega)
  have h4 : 0 ≤ w.stiff * (1000 - q) := Int.mul_nonneg (by omega) (by omega)
  have w4 : IntKind.i64.wrap (w.stiff * (1000 - q)) = w.stiff * (1000 - q) := wrap64 (by omega) (by omega)
  have e2 : (w.stiff * (1000 - q)).tdiv 1000 = w.stiff * (1000 - q) / 1000 := Int.tdiv_eq_ediv_of_nonneg h4
  have w5 : IntKind.i64.wrap (w.stiff * (1000 - q) / 1000) = w.stiff * (1000 - q) / 1000 := wrap64 (by omega) (by omega)
  generalize hn : w.stiff * (1000 - q) / 1000 = n at *
  have n0 : 0 ≤ n ∧ n ≤ 30000 := by omega
  have w6 : IntKind.i64.wrap (mn - 1200) = mn - 1200 := wrap64 (by omega) (by omega)
  have m0 : 0 ≤ maxI 0 (mn - 1200) ∧ maxI 0 (mn - 1200) ≤ 20000 := by unfold maxI; split <;> omega
  have hm' : maxI 0 (mn - 1200) = if 1200 < mn then mn - 1200 else 0 := by
    unfold maxI
    repeat' split
    all_goals omega
  have w7 : IntKind.i64.wrap (10000 - maxI 0 (mn - 1200)) = 10000 - maxI 0 (mn - 1200) := wrap64 (by omega) (by omega)
  have h5 : n * (10000 - maxI 0 (mn - 1200)) ≤ 30000 * 10000 := by
    rcases (by omega : 0 ≤ 10000 - maxI 0 (mn - 1200) ∨ 10000 - maxI 0 (mn - 1200) ≤ 0) with c | c
    · exact Int.mul_le_mul n0.2 (by omega) c (by omega)
    · have := Int.mul_nonpos_of_nonneg_of_nonpos n0.1 c
      omega
  have h6 : -300000000 ≤ n * (10000 - maxI 0 (mn - 1200)) := by
    have h7 : n * -10000 ≤ n * (10000 - maxI 0 (mn - 1200)) := Int.mul_le_mul_of_nonneg_left (by omega) n0.1
    omega
  have w8 : IntKind.i64.wrap (n * (10000 - maxI 0 (mn - 1200))) = n * (10000 - maxI 0 (mn - 1200)) := wrap64 (by omega) (by omega)
  generalize hr : n * (10000 - maxI 0 (mn - 1200)) = r at *
  have t1 : -300000000 ≤ r.tdiv 10000 ∧ r.tdiv 10000 ≤ 300000000 := by
    rcases (by omega : 0 ≤ r ∨ 0 ≤ -r) with c | c
    · rw [Int.tdiv_eq_ediv_of_nonneg c]
      omega
    · have e := Int.tdiv_eq_ediv_of_nonneg (b := 10000) c
      rw [Int.neg_tdiv] at e
      omega
  have w9 : IntKind.i64.wrap (r.tdiv 10000) = r.tdiv 10000 := wrap64 (by omega) (by omega)
  rw [hm'] at w7 hr
  unfold maxI
  simp [hk, w1, e1, w2, hq, w3, w4, e2, w5, hn, hmn, w6, w7, w8, hr, w9]
theorem rof_loop (F : List (ByteArray × Int)) (hF : F.length ≤ 1000) (vs : List Int) (hv : vs = F.map (fun x => x.2)) (ns : List ByteArray) (hn : ns = F.map (fun x => x.1)) : ∀ (n i : Nat) (r : List (ByteArray × Int)), F.drop i = r → r.length < n →
    L_ref42_Of 11 n ⟨[(0, .any), (1, .any), (2, .any), (3, .any), (5, .any), (6, .any), (7, .any), (8, .any), (9, .any), (10, .own true (vs.map eI)), (11, .own true (ns.map eNm)), (12, .row 12), (13, I i)], [(12, .row 51 2 true ((F.take i).map eFt))]⟩ =
      some (.ex 0, ⟨[(0, .any), (1, .any), (2, .any), (3, .any), (5, .any), (6, .any), (7, .any), (8, .any), (9, .any), (10, .any), (11, .any), (12, .row 12), (13, .any)], [(12, .row 51 2 true (F.map eFt))]⟩) := by
  refine lind F _ ?_ ?_
  · intro n i hr
    rw [L_ref42_Of_succ, R_ref42_Of_eq]
    have e : F.take i = F := List.take_of_length_le (List.drop_eq_nil_iff.1 hr)
    have h : ¬ (i : Int) < ns.length := by
      have := dn hr
      rw [hn, List.length_map]
      exact this
    rw [e]
    simp [h]
  · intro n i x r hr hi ih
    rw [L_ref42_Of_succ, R_ref42_Of_eq]
    have hx : F[i]? = some x := by
      have := congrArg List.head? hr
      simpa [List.head?_drop] using this
    have e : F.take (i + 1) = F.take i ++ [x] := by rw [List.take_add_one, hx]; rfl
    rw [e] at ih
    have h1 : (ns.map eNm)[i]? = some (eNm x.1) := by rw [hn, List.getElem?_map, List.getElem?_map, hx]; rfl
    have h2 : (vs.map eI)[i]? = some (eI x.2) := by rw [hv, List.getElem?_map, List.getElem?_map, hx]; rfl
    have h3 : (i : Int) < ns.length := by rw [hn, List.length_map]; omega
    have h4 : (i : Int) < vs.length := by rw [hv, List.length_map]; omega
    have hw := wrapN (n := i) (by omega)
    have h8 : (F.take i).length = i := by
      rw [List.length_take]
      omega
    have h9 : (i + 1) * 25 ≤ 140737488355328 := by omega
    generalize F.take i = q at *
    simp at ih
    simp [h1, h2, h3, h4, h8, hw, ih]
    exact h9
theorem rof_run (b : Bd) (c : List Pd) (w : Spc) (p : Pd) (hB : checkB b c = 0) (hW : checkW w = 0) (hp : c[b.prod.toNat]? = some p) :
    F_ref42_Of [.agg (eBd b), .sl (c.map ePd), .agg (eS w)] = some (.own true ((feats b p w).map eFt)) := by
  rw [F_ref42_Of_eq]
  have hb := rbcheck_run b c
  have hw := rwood_run w
  rw [hB] at hb
  rw [hW] at hw
  obtain ⟨p', hp', h0, hc0, hr⟩ := checkB_zero hB
  rw [hp] at hp'
  cases hp'
  obtain ⟨hx, hdf, hcm, _⟩ := restE_zero hr
  obtain ⟨k1, k2, k3⟩ := box_bnd hx
  obtain ⟨wl, ws, wk⟩ := checkW_zero hW
  have h6 : (c.map ePd)[b.prod.toNat]? = some (ePd p) := by rw [List.getElem?_map, hp]; rfl
  have hl := checkDf_len hdf
  have hg : ∀ d ∈ b.dfs, Rng d := fun d hd => (dfE_rng (checkDf_mem hdf d hd)).1
  have r1 := rlenN_run b k3
  have c1 := fun k => rcount_run b.dfs k (by omega)
  have c2 := fun k => rlargest_run b.dfs k (by omega) hg
  have c3 := rworst_run b.dfs
  have m1 := rcracks_run b.cel w
  have m2 := rmean_run b.cel
  have m3 := rgrad_run b.cel
  have u1 := runder_run b p w k1 k2 wk
  have s1 := rstiff_run b w k1 k2 hcm wl ws
  have ih := rof_loop (feats b p w) (by rw [feats_len]; omega) _ rfl nmsF rfl bigL 0 (feats b p w) rfl (by have := bigL_ge; rw [feats_len]; omega)
  rw [show (feats b p w).map (fun x => x.2) = [p.thick, p.width, lenN b, cntD 1 0 b.dfs, cntD 2 0 b.dfs, cntD 3 0 b.dfs, cntD 4 0 b.dfs, cntD 5 0 b.dfs, cntD 6 0 b.dfs, lrgD 1 0 b.dfs, lrgD 2 0 b.dfs, worstD b.dfs, b.wane, cracks b.cel w, mean b.cel, grad b.cel, (if underB b p w = true then 1 else 0), stiffN b w] from rfl] at ih
  have hn := rnames_run
  generalize feats b p w = l at *
  generalize nmsF = nm at *
  generalize lenN b = v2 at *
  generalize worstD b.dfs = v11 at *
  generalize cracks b.cel w = v13 at *
  generalize mean b.cel = v14 at *
  generalize grad b.cel = v15 at *
  generalize underB b p w = v16 at *
  generalize stiffN b w = v17 at *
  simp at hb hw r1 m1 m2 m3 u1 s1
  cases v16
  · simp at ih
    simp [hb, hw, h0, h6, hn, r1, c1, c2, c3, m1, m2, m3, u1, s1, ih]
  · simp at ih
    simp [hb, hw, h0, h6, hn, r1, c1, c2, c3, m1, m2, m3, u1, s1, ih]
theorem rof_none (b : Bd) (c : List Pd) (w : Spc) (h : ¬ (checkB b c = 0 ∧ checkW w = 0)) : F_ref42_Of [.agg (eBd b), .sl (c.map ePd), .agg (eS w)] = some (.own true []) := by
  rw [F_ref42_Of_eq]
  have hb := rbcheck_run b c
  have hw := rwood_run w
  simp at hb hw
  by_cases h1 : checkB b c = 0
  · have h2 : ¬ checkW w = 0 := fun h2 => h ⟨h1, h2⟩
    simp [hb, hw, h1, h2]
  · simp [hb, h1]
theorem rofO_run (b : Bd) (c : List Pd) (w : Spc) : F_ref42_Of [.agg (eBd b), .sl (c.map ePd), .agg (eS w)] = some (.own true ((featsO b c w).map eFt)) := by
  unfold featsO
  by_cases h : checkB b c = 0 ∧ checkW w = 0
  · rw [if_pos h]
    obtain ⟨p, hp, _⟩ := checkB_zero h.1
    rw [hp]
    exact rof_run b c w p h.1 h.2 hp
  · rw [if_neg h]
    exact rof_none b c w h
theorem ofs_law (g : Gd) (ok : g.ps.length ≤ 9223372036854775807) : F_law42_FeatureOfs [.agg (eGd g)] = some (B true) := by
  rw [F_law42_FeatureOfs_eq]
  have hs := lshort_run g ok
  have ha := awake_run
  simp at hs
  cases h1 : shG g
  · simp [hs, h1, ha]
  have o1 := lof_run g
  have o2 := rofO_run g.b g.ps g.s
  have e : featsO g.b g.ps g.s = featsG g := rfl
  rw [e] at o2
  have hsm := sameR_run (featsG g) (by have := featsG_len g; omega)
  generalize featsG g = l at *
  simp at o1 o2
  simp [hs, h1, o1, o2, hsm, ha]
theorem featureOfs_abs (xs : List D) (h : TyArgs Tryz.prog Tryz.f3.params.toList xs) : Contract Tryz.prog gl 3 xs (.x (.bool true)) := by
  simp [TyArgs] at h
  obtain ⟨d, rfl, h1⟩ := h
  obtain ⟨g, rfl, ok⟩ := tyGd h1
  exact C_law42_FeatureOfs _ _ (ofs_law g ok.ps)
end Go.Proofs.YtjhlidaikegelaaGreat
