/-
  Sizes and stiffness of a board, run abstractly.
-/
import Derived.Test.YtjhlidaikegelaaGreatFtR
namespace Go.Proofs.YtjhlidaikegelaaGreat
set_option linter.unusedSimpArgs false
set_option linter.unusedVariables false
open Go Go.Abs
set_option maxHeartbeats 8000000
set_option maxRecDepth 100000
theorem clamp3_bnd (m : Int) : 0 ≤ clampN m 0 3000 ∧ clampN m 0 3000 ≤ 3000 := by
  unfold clampN
  repeat' split
  all_goals omega
def shrN (w : Spc) (z m : Int) : Int := z - z * w.shrink * (3000 - clampN m 0 3000) / 3000000
theorem shr_bnd {s z m : Int} (hz : 0 ≤ z ∧ z ≤ 20000) (hs : 0 ≤ s ∧ s ≤ 200) : (0 ≤ z * s ∧ z * s ≤ 4000000) ∧ 0 ≤ z * s * (3000 - clampN m 0 3000) ∧ z * s * (3000 - clampN m 0 3000) ≤ 12000000000 := by
  have h1 : z * s ≤ 20000 * 200 := Int.mul_le_mul hz.2 hs.2 hs.1 (by omega)
  have h2 : 0 ≤ z * s := Int.mul_nonneg hz.1 hs.1
  have hc := clamp3_bnd m
  have h3 : z * s * (3000 - clampN m 0 3000) ≤ 4000000 * 3000 := Int.mul_le_mul (by omega) (by omega) (by omega) (by omega)
  have h4 : 0 ≤ z * s * (3000 - clampN m 0 3000) := Int.mul_nonneg h2 (by omega)
  omega
theorem shrunk_run (w : Spc) (z m : Int) (hz : 0 ≤ z ∧ z ≤ 20000) (hs : 0 ≤ w.shrink ∧ w.shrink ≤ 200) : F_wood_Shrunk [.agg (eS w), I z, I m] = some (I (shrN w z m)) := by
  rw [F_wood_Shrunk_eq]
  obtain ⟨b1, b2⟩ := shr_bnd (m := m) hz hs
  have hc := clamp3_bnd m
  have hk := clamp_run m 0 3000
  have w1 : IntKind.i64.wrap (3000 - clampN m 0 3000) = 3000 - clampN m 0 3000 := wrap64 (by omega) (by omega)
  have w2 : IntKind.i64.wrap (z * w.shrink) = z * w.shrink := wrap64 (by omega) (by omega)
  have c1 : ¬ z < 0 := by omega
  have c2 : ¬ 20000 < z := by omega
  have c3 : ¬ w.shrink < 0 := by omega
  have c4 : ¬ 200 < w.shrink := by omega
  unfold shrN
  generalize clampN m 0 3000 = q at *
  have w3 : IntKind.i64.wrap (z * w.shrink * (3000 - q)) = z * w.shrink * (3000 - q) := wrap64 (by omega) (by omega)
  have e : (z * w.shrink * (3000 - q)).tdiv 3000000 = z * w.shrink * (3000 - q) / 3000000 := Int.tdiv_eq_ediv_of_nonneg (by omega)
  have w4 : IntKind.i64.wrap (z * w.shrink * (3000 - q) / 3000000) = z * w.shrink * (3000 - q) / 3000000 := wrap64 (by omega) (by omega)
  have w5 : IntKind.i64.wrap (z - z * w.shrink * (3000 - q) / 3000000) = z - z * w.shrink * (3000 - q) / 3000000 := wrap64 (by omega) (by omega)
  simp [c1, c2, c3, c4, hk, w1, w2, w3, e, w4, w5]
theorem across_run (a b : Int) : F_sizing_across [.agg [I a, I b]] = some (B (crossB a b)) := by
  rw [F_sizing_across_eq]
  simp
  rw [Bool.eq_iff_iff]
  simp [crossB]
  omega
def minI (a b : Int) : Int := if b < a then b else a
def maxI (a b : Int) : Int := if a < b then b else a
theorem dried_run (b : Bd) (w : Spc) (hx : crossB b.xa b.xb = true) (hy : crossB b.ya b.yb = true) (hs : 0 ≤ w.shrink ∧ w.shrink ≤ 200) :
    F_sizing_Dried [.agg (eBd b), .agg (eS w)] = some (.tup [I (shrN w (minI (b.xb - b.xa) (b.yb - b.ya)) (mean b.cel)), I (shrN w (maxI (b.xb - b.xa) (b.yb - b.ya)) (mean b.cel))]) := by
  rw [F_sizing_Dried_eq]
  obtain ⟨w1, p1⟩ := cross_bnd hx
  obtain ⟨w2, p2⟩ := cross_bnd hy
  have a1 := across_run b.xa b.xb
  have a2 := across_run b.ya b.yb
  rw [hx] at a1
  rw [hy] at a2
  have hm := mean_run b.cel
  have s1 := shrunk_run w (minI (b.xb - b.xa) (b.yb - b.ya)) (mean b.cel) (by unfold minI; split <;> omega) hs
  have s2 := shrunk_run w (maxI (b.xb - b.xa) (b.yb - b.ya)) (mean b.cel) (by unfold maxI; split <;> omega) hs
  simp at hm
  unfold minI maxI at *
  simp at s1 s2
  simp [a1, a2, w1, w2, hm, s1, s2]
def underB (b : Bd) (p : Pd) (w : Spc) : Bool := decide (shrN w (minI (b.xb - b.xa) (b.yb - b.ya)) (mean b.cel) < p.thick) || decide (shrN w (maxI (b.xb - b.xa) (b.yb - b.ya)) (mean b.cel) < p.width)
theorem under_run (b : Bd) (p : Pd) (w : Spc) (hx : crossB b.xa b.xb = true) (hy : crossB b.ya b.yb = true) (hs : 0 ≤ w.shrink ∧ w.shrink ≤ 200) :
    F_sizing_Under [.agg (eBd b), .agg (ePd p), .agg (eS w)] = some (B (underB b p w)) := by
  rw [F_sizing_Under_eq]
  have h := dried_run b w hx hy hs
  unfold underB
  generalize shrN w (minI (b.xb - b.xa) (b.yb - b.ya)) (mean b.cel) = t at *
  generalize shrN w (maxI (b.xb - b.xa) (b.yb - b.ya)) (mean b.cel) = u at *
  simp at h
  simp [h]
  by_cases c : p.thick ≤ t
  · have c' : ¬ t < p.thick := by omega
    simp [c, c']
  · have c' : t < p.thick := by omega
    simp [c, c']
theorem wrsD_bnd (all : List Dfc) (M : Int) (hM : ∀ z0 z1, 0 ≤ sumW z0 z1 0 all ∧ sumW z0 z1 0 all ≤ M) : ∀ (r : List Dfc) (w : Int), 0 ≤ w → w ≤ M → 0 ≤ wrsD all w r ∧ wrsD all w r ≤ M
  | [], w, h0, h1 => ⟨h0, h1⟩
  | d :: r, w, h0, h1 => by
    unfold wrsD
    have h := hM (d.za - 149) (d.za + 1)
    apply wrsD_bnd all M hM r
    all_goals split <;> omega
theorem sumW_bnd (z0 z1 : Int) : ∀ (l : List Dfc) (s : Int), (∀ d ∈ l, dfE d = 0) → 0 ≤ s → 0 ≤ sumW z0 z1 s l ∧ sumW z0 z1 s l ≤ s + 1200 * l.length
  | [], s, _, h0 => by simp [sumW]; exact h0
  | d :: r, s, hd, h0 => by
    obtain ⟨_, hp, hb⟩ := dfE_rng (hd d List.mem_cons_self)
    have hr : ∀ d ∈ r, dfE d = 0 := fun x hx => hd x (List.mem_cons_of_mem _ hx)
    have h1 := sumW_bnd z0 z1 r s hr h0
    have h2 := sumW_bnd z0 z1 r (s + sizeD d) hr (by omega)
    unfold sumW
    simp only [List.length_cons]
    split <;> omega
theorem worstD_bnd (l : List Dfc) : 0 ≤ worstD l ∧ worstD l ≤ 76800 := by
  unfold worstD
  split
  · rename_i h
    have hl := checkDf_len h
    exact wrsD_bnd l 76800 (fun z0 z1 => by have := sumW_bnd z0 z1 l 0 (checkDf_mem h) (by omega); omega) l 0 (by omega) (by omega)
  · omega
def knotsN (b : Bd) : Int := minI (worstD b.dfs * 1000 / maxI (b.xb - b.xa) (b.yb - b.ya)) 1000
theorem lenS_cross {a b : Int} (h : crossB a b = true) : lenS a b = b - a ∧ i64 a ∧ i64 b := by
  simp [crossB] at h
  unfold lenS i64
  repeat' split
  all_goals omega
theorem knots_run (b : Bd) (hx : crossB b.xa b.xb = true) (hy : crossB b.ya b.yb = true) : F_strength_Knots [.agg (eBd b)] = some (I (knotsN b)) := by
  rw [F_strength_Knots_eq]
  obtain ⟨_, p1⟩ := cross_bnd hx
  obtain ⟨_, p2⟩ := cross_bnd hy
  obtain ⟨e1, j1, j2⟩ := lenS_cross hx
  obtain ⟨e2, j3, j4⟩ := lenS_cross hy
  have l1 := slen_run b.xa b.xb j1 j2
  have l2 := slen_run b.ya b.yb j3 j4
  rw [e1] at l1
  rw [e2] at l2
  have hw := worst_run b.dfs
  obtain ⟨b1, b2⟩ := worstD_bnd b.dfs
  unfold knotsN minI
  have hq : 0 < maxI (b.xb - b.xa) (b.yb - b.ya) := by unfold maxI; split <;> omega
  have hq' : maxI (b.xb - b.xa) (b.yb - b.ya) = if b.xb - b.xa < b.yb - b.ya then b.yb - b.ya else b.xb - b.xa := rfl
  generalize maxI (b.xb - b.xa) (b.yb - b.ya) = q at *
  generalize worstD b.dfs = wd at *
  have w1 : IntKind.i64.wrap (wd * 1000) = wd * 1000 := wrap64 (by omega) (by omega)
  have e : (wd * 1000).tdiv q = wd * 1000 / q := Int.tdiv_eq_ediv_of_nonneg (by omega)
  have h1 : 0 ≤ wd * 1000 / q := Int.ediv_nonneg (by omega) (by omega)
  have h2 : wd * 1000 / q ≤ wd * 1000 := Int.ediv_le_self _ (by omega)
  have w2 : IntKind.i64.wrap (wd * 1000 / q) = wd * 1000 / q := wrap64 (by omega) (by omega)
  have c1 : ¬ q < 1 := by omega
  have c2 : ¬ q = 0 := by omega
  simp [l1, l2, ← hq', c1, c2, hw, w1, e, w2]
def stiffN (b : Bd) (w : Spc) : Int := maxI 0 ((w.stiff * (1000 - w.loss * knotsN b / 1000) / 1000 * (10000 - maxI 0 (mean b.cel - 1200))).tdiv 10000)
theorem knotsN_bnd (b : Bd) (hx : crossB b.xa b.xb = true) : 0 ≤ knotsN b ∧ knotsN b ≤ 1000 := by
  obtain ⟨b1, b2⟩ := worstD_bnd b.dfs
  obtain ⟨_, p1⟩ := cross_bnd hx
  have hq : 0 < maxI (b.xb - b.xa) (b.yb - b.ya) := by unfold maxI; split <;> omega
  have h1 : 0 ≤ worstD b.dfs * 1000 / maxI (b.xb - b.xa) (b.yb - b.ya) := Int.ediv_nonneg (by omega) (by omega)
  unfold knotsN minI
  split <;> omega
theorem stiff_run (b : Bd) (w : Spc) (hx : crossB b.xa b.xb = true) (hy : crossB b.ya b.yb = true) (hm : checkM b.cel = 0) (hl : 0 ≤ w.loss ∧ w.loss ≤ 1000) (hs : 1000 ≤ w.stiff ∧ w.stiff ≤ 30000) :
    F_strength_Stiffness [.agg (eBd b), .agg (eS w)] = some (I (stiffN b w)) := by
  rw [F_strength_Stiffness_eq]
  have hk := knots_run b hx hy
  have kb := knotsN_bnd b hx
  have hmn := mean_run b.cel
  have mb : 0 ≤ mean b.cel ∧ mean b.cel ≤ 20000 := by
    obtain ⟨h1, h2, _⟩ := checkM_zero.1 hm
    unfold mean
    rw [if_pos hm]
    omega
  unfold stiffN
  simp at hk hmn
  generalize mean b.cel = mn at *
  generalize knotsN b = k at *
  have h1 : w.loss * k ≤ 1000 * 1000 := Int.mul_le_mul hl.2 kb.2 kb.1 (by omega)
  have h2 : 0 ≤ w.loss * k := Int.mul_nonneg hl.1 kb.1
  have w1 : IntKind.i64.wrap (w.loss * k) = w.loss * k := wrap64 (by omega) (by omega)
  have e1 : (w.loss * k).tdiv 1000 = w.loss * k / 1000 := Int.tdiv_eq_ediv_of_nonneg h2
  have w2 : IntKind.i64.wrap (w.loss * k / 1000) = w.loss * k / 1000 := wrap64 (by omega) (by omega)
  generalize hq : w.loss * k / 1000 = q at *
  have q0 : 0 ≤ q ∧ q ≤ 1000 := by omega
  have w3 : IntKind.i64.wrap (1000 - q) = 1000 - q := wrap64 (by omega) (by omega)
  have h3 : w.stiff * (1000 - q) ≤ 30000 * 1000 := Int.mul_le_mul hs.2 (by omega) (by omega) (by omega)
  have h4 : 0 ≤ w.stiff * (1000 - q) := Int.mul_nonneg (by omega) (by omega)
  have w4 : IntKind.i64.wrap (w.stiff * (1000 - q)) = w.stiff * (1000 - q) := wrap64 (by omega) (by omega)
  have e2 : (w.stiff * (1000 - q)).tdiv 1000 = w.stiff * (1000 - q) / 1000 := Int.tdiv_eq_ediv_of_nonneg h4
  have w5 : IntKind.i64.wrap (w.stiff * (1000 - q) / 1000) = w.stiff * (1000 - q) / 1000 := wrap64 (by omega) (by omega)
  generalize hn : w.stiff * (1000 - q) / 1000 = n at *
  have n0 : 0 ≤ n ∧ n ≤ 30000 := by omega
  have w6 : IntKind.i64.wrap (mn - 1200) = mn - 1200 := wrap64 (by omega) (by omega)
  have m0 : 0 ≤ maxI 0 (mn - 1200) ∧ maxI 0 (mn - 1200) ≤ 20000 := by unfold maxI; split <;> omega
  have hm' : maxI 0 (mn - 1200) = if 1200 < mn then mn - 1200 else 0 := by
    unfold maxI
    repeat' split
    all_goals omega
  have w7 : IntKind.i64.wrap (10000 - maxI 0 (mn - 1200)) = 10000 - maxI 0 (mn - 1200) := wrap64 (by omega) (by omega)
  have h5 : n * (10000 - maxI 0 (mn - 1200)) ≤ 30000 * 10000 := by
    rcases (by omega : 0 ≤ 10000 - maxI 0 (mn - 1200) ∨ 10000 - maxI 0 (mn - 1200) ≤ 0) with c | c
    · exact Int.mul_le_mul n0.2 (by omega) c (by omega)
    · have := Int.mul_nonpos_of_nonneg_of_nonpos n0.1 c
      omega
  have h6 : -300000000 ≤ n * (10000 - maxI 0 (mn - 1200)) := by
    have h7 : n * -10000 ≤ n * (10000 - maxI 0 (mn - 1200)) := Int.mul_le_mul_of_nonneg_left (by omega) n0.1
    omega
  have w8 : IntKind.i64.wrap (n * (10000 - maxI 0 (mn - 1200))) = n * (10000 - maxI 0 (mn - 1200)) := wrap64 (by omega) (by omega)
  generalize hr : n * (10000 - maxI 0 (mn - 1200)) = r at *
  have t1 : -300000000 ≤ r.tdiv 10000 ∧ r.tdiv 10000 ≤ 300000000 := by
    rcases (by omega : 0 ≤ r ∨ 0 ≤ -r) with c | c
    · rw [Int.tdiv_eq_ediv_of_nonneg c]
      omega
    · have e := Int.tdiv_eq_ediv_of_nonneg (b := 10000) c
      rw [Int.neg_tdiv] at e
      omega
  have w9 : IntKind.i64.wrap (r.tdiv 10000) = r.tdiv 10000 := wrap64 (by omega) (by omega)
  rw [hm'] at w7 hr
  unfold maxI
  simp [hk, w1, e1, w2, hq, w3, w4, e2, w5, hn, hmn, w6, w7, w8, hr, w9]
def lenN (b : Bd) : Int := if alongB b.za b.zb = true then b.zb - b.za else 0
theorem blen_run (b : Bd) : F_board_Length [.agg (eBd b)] = some (I (lenN b)) := by
  rw [F_board_Length_eq]
  have h1 := along_run b.za b.zb
  have h2 := blength_run b.za b.zb
  unfold lenN
  cases h : alongB b.za b.zb
  · simp [h1, h]
  · obtain ⟨w, _⟩ := along_bnd h
    rw [w] at h2
    simp [h1, h, h2]
end Go.Proofs.YtjhlidaikegelaaGreat
