/-
  Several texts as one (merge.py): FtR, FtS, FtT, FtU, FvA, FvB, RlG, RlT, CvV, GrM, GrA, GrB, GrC, GrF, GrP, GrQ, GenX, GrD, GrE, GrG, GrH, GrI, GenY, GrJ, GrK, GrT, GrL, GrTie.
-/
import Derived.Test.YtldekjlihfidlaaGreatDoorFtP
import Derived.Test.YtldekjlihfidlaaGreatDoorFtQ
import Derived.Test.YtldekjlihfidlaaGreatDoorRlF
import Derived.Sort.Walk0
import Derived.Test.YtldekjlihfidlaaGreatDoorRlB
import Derived.Test.YtldekjlihfidlaaGreatDoorRlD
import Derived.Test.YtldekjlihfidlaaGreatDoorAbs2
import Derived.Test.YtldekjlihfidlaaGreatDoorCvA
import Derived.Test.YtldekjlihfidlaaGreatDoorGen
import Derived.Test.YtldekjlihfidlaaGreatDoorIdA
import Derived.Lib.ItoaNum
import Derived.Test.YtldekjlihfidlaaGreatDoorFtL
import Derived.Test.YtldekjlihfidlaaGreatDoorLibG
import Derived.Test.YtldekjlihfidlaaGreatDoorTie
import Derived.ProofKit
import Derived.LaidMore
import Derived.OpenShut
import Derived.Stop.Joined
import Derived.Stop.LaidErr
import Derived.SevenTiedAt
namespace Go.Proofs.YtldekjlihfidlaaGreatDoor
set_option linter.unusedSimpArgs false
set_option linter.unusedVariables false
open Go Go.Abs
set_option maxHeartbeats 8000000
set_option maxRecDepth 100000
def knotB (d : Dfc) : Bool := decide (d.kind = 1) || decide (d.kind = 2)
/-- Whether two spans meet. -/
def meetB (a b c d : Int) : Bool := decide ((if a < c then c else a) < (if d < b then d else b))
def sumW (z0 z1 : Int) (s : Int) : List Dfc → Int
  | [] => s
  | d :: r => if (knotB d && meetB d.za d.zb z0 z1) = true then sumW z0 z1 (s + sizeD d) r else sumW z0 z1 s r
def wrsD (all : List Dfc) (w : Int) : List Dfc → Int
  | [] => w
  | d :: r => wrsD all (if w < sumW (d.za - 149) (d.za + 1) 0 all then sumW (d.za - 149) (d.za + 1) 0 all else w) r
def worstD (l : List Dfc) : Int := if checkDf l = 0 then wrsD l 0 l else 0
theorem isKnot_run (d : Dfc) : F_defect_isKnot [.agg (eDf d)] = some (B (knotB d)) := by
  rw [F_defect_isKnot_eq]
  simp [knotB]
theorem meet_run (a b c d : Int) : F_span_Meet [.agg [I a, I b], .agg [I c, I d]] = some (.agg [I (if meetB a b c d = true then if a < c then c else a else 0), I (if meetB a b c d = true then if d < b then d else b else 0)]) := by
  rw [F_span_Meet_eq]
  have e : ∀ x y : Int, (if y ≤ x then (0 : Int) else x) = if decide (x < y) = true then x else 0 := by
    intro x y
    by_cases h : x < y
    · have : ¬ y ≤ x := by omega
      simp [h, this]
    · have : y ≤ x := by omega
      simp [h, this]
  have e' : ∀ x y : Int, (if y ≤ x then (0 : Int) else y) = if decide (x < y) = true then y else 0 := by
    intro x y
    by_cases h : x < y
    · have : ¬ y ≤ x := by omega
      simp [h, this]
    · have : y ≤ x := by omega
      simp [h, this]
  simp
  unfold meetB
  rw [e, e']
  exact ⟨by simp, by simp⟩
theorem meetE_run (a b c d : Int) : F_defect_isEmpty [.agg [I (if meetB a b c d = true then if a < c then c else a else 0), I (if meetB a b c d = true then if d < b then d else b else 0)]] = some (B (!meetB a b c d)) := by
  rw [isEmpty_run]
  cases h : meetB a b c d
  · simp
  · simp [meetB] at h
    simp
    exact h
theorem dfE_zero {d : Dfc} (h : dfE d = 0) : (1 ≤ d.kind ∧ d.kind ≤ 6) ∧ (-600 ≤ d.xa ∧ d.xa < d.xb ∧ d.xb ≤ 600) ∧ (-600 ≤ d.ya ∧ d.ya < d.yb ∧ d.yb ≤ 600) ∧ (0 ≤ d.za ∧ d.za < d.zb ∧ d.zb ≤ 20000) := by
  unfold dfE at h
  repeat' split at h
  all_goals omega
theorem dfE_rng {d : Dfc} (h : dfE d = 0) : Rng d ∧ 0 < sizeD d ∧ sizeD d ≤ 1200 := by
  obtain ⟨_, h1, h2, _⟩ := dfE_zero h
  refine ⟨⟨by unfold i64; omega, by unfold i64; omega, by unfold i64; omega, by unfold i64; omega⟩, ?_⟩
  unfold sizeD lenS
  repeat' split
  all_goals omega
theorem dfsE_mem : ∀ {l : List Dfc}, dfsE l = 0 → ∀ d ∈ l, dfE d = 0
  | [], _, d, hd => by cases hd
  | x :: r, h, d, hd => by
    unfold dfsE at h
    by_cases hx : dfE x = 0
    · rw [if_pos hx] at h
      rcases List.mem_cons.1 hd with rfl | hd
      · exact hx
      · exact dfsE_mem h d hd
    · rw [if_neg hx] at h
      exact absurd h hx
theorem checkDf_mem {l : List Dfc} (h : checkDf l = 0) : ∀ d ∈ l, dfE d = 0 := by
  unfold checkDf at h
  split at h
  · omega
  · exact dfsE_mem h
theorem sum_loop (l : List Dfc) (hl : l.length ≤ 64) (hd : ∀ d ∈ l, dfE d = 0) (w : Int) (k : Nat) (z0 z1 : Int) : ∀ (n i : Nat) (r : List Dfc), l.drop i = r → r.length < n → ∀ s : Int, 0 ≤ s → s ≤ 1200 * i →
    L_defect_Worst 11 n ⟨[(0, .sl (l.map eDf)), (1, I 150), (4, .any), (5, I w), (7, .any), (8, .any), (9, .ptr 9 0), (10, I s), (12, .any), (24, .sl (l.map eDf)), (25, I l.length), (26, I k), (42, .sl (l.map eDf)), (43, I l.length), (44, I i)], [(9, .box 23 [I z0, I z1])]⟩ =
      some (.ex 2, ⟨[(0, .sl (l.map eDf)), (1, I 150), (4, .any), (5, I w), (7, .any), (8, .any), (9, .any), (10, I (sumW z0 z1 s r)), (12, .any), (24, .sl (l.map eDf)), (25, I l.length), (26, I k), (42, .any), (43, .any), (44, .any)], []⟩) := by
  refine lind l _ ?_ ?_
  · intro n i hr s h0 h1
    rw [L_defect_Worst_succ, R_defect_Worst_eq]
    simp [dn hr, sumW]
  · intro n i d r hr hi ih s h0 hs
    rw [L_defect_Worst_succ, R_defect_Worst_eq]
    obtain ⟨h1, h3, hr', _⟩ := dc (enc := eDf) hr
    have hw := wrapN (n := i) (by omega)
    obtain ⟨hg, hp, hb⟩ := dfE_rng (hd d (List.mem_of_mem_drop (hr ▸ List.mem_cons_self : d ∈ l.drop i)))
    have hz := dsize_run d hg
    have hk := isKnot_run d
    have hm := meet_run d.za d.zb z0 z1
    have he := meetE_run d.za d.zb z0 z1
    generalize (if meetB d.za d.zb z0 z1 = true then if d.za < z0 then z0 else d.za else 0) = m1 at *
    generalize (if meetB d.za d.zb z0 z1 = true then if z1 < d.zb then z1 else d.zb else 0) = m2 at *
    have ws : IntKind.i64.wrap (s + sizeD d) = s + sizeD d := wrap64 (by omega) (by omega)
    unfold sumW
    simp at hz hk
    cases c1 : knotB d
    · have ih' := ih s (by omega) (by omega)
      simp at ih'
      rw [c1] at hk
      simp [h1, h3, hk, hw, ih']
    · rw [c1] at hk
      cases c2 : meetB d.za d.zb z0 z1
      · have ih' := ih s (by omega) (by omega)
        simp at ih'
        rw [c2] at he
        simp [h1, h3, hk, hm, he, hw, ih']
      · have ih' := ih (s + sizeD d) (by omega) (by omega)
        simp at ih'
        rw [c2] at he
        simp [h1, h3, hk, hm, he, hz, hw, ws, ih']
theorem worst_loop (l : List Dfc) (hl : l.length ≤ 64) (hd : ∀ d ∈ l, dfE d = 0) : ∀ (n i : Nat) (r : List Dfc), l.drop i = r → r.length < n → ∀ w : Int,
    L_defect_Worst 5 n ⟨[(0, .sl (l.map eDf)), (1, I 150), (4, .any), (5, I w), (7, .any), (8, .any), (9, .any), (10, .any), (12, .any), (24, .sl (l.map eDf)), (25, I l.length), (26, I i), (42, .any), (43, .any), (44, .any)], []⟩ =
      some (.ex 0, ⟨[(0, .any), (1, .any), (4, .any), (5, I (wrsD l w r)), (7, .any), (8, .any), (9, .any), (10, .any), (12, .any), (24, .any), (25, .any), (26, .any), (42, .any), (43, .any), (44, .any)], []⟩) := by
  refine lind l _ ?_ ?_
  · intro n i hr w
    rw [L_defect_Worst_succ, R_defect_Worst_eq]
    simp [dn hr, wrsD]
  · intro n i d r hr hi ih w
    rw [L_defect_Worst_succ, R_defect_Worst_eq]
    obtain ⟨h1, h3, hr', _⟩ := dc (enc := eDf) hr
    have hw := wrapN (n := i) (by omega)
    obtain ⟨_, _, _, hz⟩ := dfE_zero (hd d (List.mem_of_mem_drop (hr ▸ List.mem_cons_self : d ∈ l.drop i)))
    have w1 : IntKind.i64.wrap (d.za - 150) = d.za - 150 := wrap64 (by omega) (by omega)
    have w2 : IntKind.i64.wrap (d.za - 150 + 1) = d.za - 149 := by rw [wrap64 (by omega) (by omega)]; omega
    have w3 : IntKind.i64.wrap (d.za - 149 + 150) = d.za + 1 := by rw [wrap64 (by omega) (by omega)]; omega
    have is := sum_loop l hl hd w i (d.za - 149) (d.za + 1) bigL 0 l rfl (by have := bigL_ge; omega) 0 (by omega) (by omega)
    have ih' := ih (if w < sumW (d.za - 149) (d.za + 1) 0 l then sumW (d.za - 149) (d.za + 1) 0 l else w)
    unfold wrsD
    simp at is ih'
    simp [h1, h3, w1, w2, w3, is, hw, ih']
theorem worst_run (l : List Dfc) : F_defect_Worst [.sl (l.map eDf), I 150] = some (I (worstD l)) := by
  rw [F_defect_Worst_eq]
  have hc := checkDf_run l
  unfold worstD
  by_cases h : checkDf l = 0
  · have ih := worst_loop l (checkDf_len h) (checkDf_mem h) bigL 0 l rfl (by have := bigL_ge; have := checkDf_len h; omega) 0
    simp at ih
    simp [hc, h, ih]
  · simp [hc, h]
end Go.Proofs.YtldekjlihfidlaaGreatDoor
namespace Go.Proofs.YtldekjlihfidlaaGreatDoor
set_option linter.unusedSimpArgs false
set_option linter.unusedVariables false
open Go Go.Abs
set_option maxHeartbeats 8000000
set_option maxRecDepth 100000
theorem clamp3_bnd (m : Int) : 0 ≤ clampN m 0 3000 ∧ clampN m 0 3000 ≤ 3000 := by
  unfold clampN
  repeat' split
  all_goals omega
def shrN (w : Spc) (z m : Int) : Int := z - z * w.shrink * (3000 - clampN m 0 3000) / 3000000
theorem shr_bnd {s z m : Int} (hz : 0 ≤ z ∧ z ≤ 20000) (hs : 0 ≤ s ∧ s ≤ 200) : (0 ≤ z * s ∧ z * s ≤ 4000000) ∧ 0 ≤ z * s * (3000 - clampN m 0 3000) ∧ z * s * (3000 - clampN m 0 3000) ≤ 12000000000 := by
  have h1 : z * s ≤ 20000 * 200 := Int.mul_le_mul hz.2 hs.2 hs.1 (by omega)
  have h2 : 0 ≤ z * s := Int.mul_nonneg hz.1 hs.1
  have hc := clamp3_bnd m
  have h3 : z * s * (3000 - clampN m 0 3000) ≤ 4000000 * 3000 := Int.mul_le_mul (by omega) (by omega) (by omega) (by omega)
  have h4 : 0 ≤ z * s * (3000 - clampN m 0 3000) := Int.mul_nonneg h2 (by omega)
  omega
theorem shrunk_run (w : Spc) (z m : Int) (hz : 0 ≤ z ∧ z ≤ 20000) (hs : 0 ≤ w.shrink ∧ w.shrink ≤ 200) : F_wood_Shrunk [.agg (eS w), I z, I m] = some (I (shrN w z m)) := by
  rw [F_wood_Shrunk_eq]
  obtain ⟨b1, b2⟩ := shr_bnd (m := m) hz hs
  have hc := clamp3_bnd m
  have hk := clamp_run m 0 3000
  have w1 : IntKind.i64.wrap (3000 - clampN m 0 3000) = 3000 - clampN m 0 3000 := wrap64 (by omega) (by omega)
  have w2 : IntKind.i64.wrap (z * w.shrink) = z * w.shrink := wrap64 (by omega) (by omega)
  have c1 : ¬ z < 0 := by omega
  have c2 : ¬ 20000 < z := by omega
  have c3 : ¬ w.shrink < 0 := by omega
  have c4 : ¬ 200 < w.shrink := by omega
  unfold shrN
  generalize clampN m 0 3000 = q at *
  have w3 : IntKind.i64.wrap (z * w.shrink * (3000 - q)) = z * w.shrink * (3000 - q) := wrap64 (by omega) (by omega)
  have e : (z * w.shrink * (3000 - q)).tdiv 3000000 = z * w.shrink * (3000 - q) / 3000000 := Int.tdiv_eq_ediv_of_nonneg (by omega)
  have w4 : IntKind.i64.wrap (z * w.shrink * (3000 - q) / 3000000) = z * w.shrink * (3000 - q) / 3000000 := wrap64 (by omega) (by omega)
  have w5 : IntKind.i64.wrap (z - z * w.shrink * (3000 - q) / 3000000) = z - z * w.shrink * (3000 - q) / 3000000 := wrap64 (by omega) (by omega)
  simp [c1, c2, c3, c4, hk, w1, w2, w3, e, w4, w5]
theorem across_run (a b : Int) : F_sizing_across [.agg [I a, I b]] = some (B (crossB a b)) := by
  rw [F_sizing_across_eq]
  simp
  rw [Bool.eq_iff_iff]
  simp [crossB]
  omega
def minI (a b : Int) : Int := if b < a then b else a
def maxI (a b : Int) : Int := if a < b then b else a
theorem dried_run (b : Bd) (w : Spc) (hx : crossB b.xa b.xb = true) (hy : crossB b.ya b.yb = true) (hs : 0 ≤ w.shrink ∧ w.shrink ≤ 200) :
    F_sizing_Dried [.agg (eBd b), .agg (eS w)] = some (.tup [I (shrN w (minI (b.xb - b.xa) (b.yb - b.ya)) (mean b.cel)), I (shrN w (maxI (b.xb - b.xa) (b.yb - b.ya)) (mean b.cel))]) := by
  rw [F_sizing_Dried_eq]
  obtain ⟨w1, p1⟩ := cross_bnd hx
  obtain ⟨w2, p2⟩ := cross_bnd hy
  have a1 := across_run b.xa b.xb
  have a2 := across_run b.ya b.yb
  rw [hx] at a1
  rw [hy] at a2
  have hm := mean_run b.cel
  have s1 := shrunk_run w (minI (b.xb - b.xa) (b.yb - b.ya)) (mean b.cel) (by unfold minI; split <;> omega) hs
  have s2 := shrunk_run w (maxI (b.xb - b.xa) (b.yb - b.ya)) (mean b.cel) (by unfold maxI; split <;> omega) hs
  simp at hm
  unfold minI maxI at *
  simp at s1 s2
  simp [a1, a2, w1, w2, hm, s1, s2]
def underB (b : Bd) (p : Pd) (w : Spc) : Bool := decide (shrN w (minI (b.xb - b.xa) (b.yb - b.ya)) (mean b.cel) < p.thick) || decide (shrN w (maxI (b.xb - b.xa) (b.yb - b.ya)) (mean b.cel) < p.width)
theorem under_run (b : Bd) (p : Pd) (w : Spc) (hx : crossB b.xa b.xb = true) (hy : crossB b.ya b.yb = true) (hs : 0 ≤ w.shrink ∧ w.shrink ≤ 200) :
    F_sizing_Under [.agg (eBd b), .agg (ePd p), .agg (eS w)] = some (B (underB b p w)) := by
  rw [F_sizing_Under_eq]
  have h := dried_run b w hx hy hs
  unfold underB
  generalize shrN w (minI (b.xb - b.xa) (b.yb - b.ya)) (mean b.cel) = t at *
  generalize shrN w (maxI (b.xb - b.xa) (b.yb - b.ya)) (mean b.cel) = u at *
  simp at h
  simp [h]
  by_cases c : p.thick ≤ t
  · have c' : ¬ t < p.thick := by omega
    simp [c, c']
  · have c' : t < p.thick := by omega
    simp [c, c']
theorem wrsD_bnd (all : List Dfc) (M : Int) (hM : ∀ z0 z1, 0 ≤ sumW z0 z1 0 all ∧ sumW z0 z1 0 all ≤ M) : ∀ (r : List Dfc) (w : Int), 0 ≤ w → w ≤ M → 0 ≤ wrsD all w r ∧ wrsD all w r ≤ M
  | [], w, h0, h1 => ⟨h0, h1⟩
  | d :: r, w, h0, h1 => by
    unfold wrsD
    have h := hM (d.za - 149) (d.za + 1)
    apply wrsD_bnd all M hM r
    all_goals split <;> omega
theorem sumW_bnd (z0 z1 : Int) : ∀ (l : List Dfc) (s : Int), (∀ d ∈ l, dfE d = 0) → 0 ≤ s → 0 ≤ sumW z0 z1 s l ∧ sumW z0 z1 s l ≤ s + 1200 * l.length
  | [], s, _, h0 => by simp [sumW]; exact h0
  | d :: r, s, hd, h0 => by
    obtain ⟨_, hp, hb⟩ := dfE_rng (hd d List.mem_cons_self)
    have hr : ∀ d ∈ r, dfE d = 0 := fun x hx => hd x (List.mem_cons_of_mem _ hx)
    have h1 := sumW_bnd z0 z1 r s hr h0
    have h2 := sumW_bnd z0 z1 r (s + sizeD d) hr (by omega)
    unfold sumW
    simp only [List.length_cons]
    split <;> omega
theorem worstD_bnd (l : List Dfc) : 0 ≤ worstD l ∧ worstD l ≤ 76800 := by
  unfold worstD
  split
  · rename_i h
    have hl := checkDf_len h
    exact wrsD_bnd l 76800 (fun z0 z1 => by have := sumW_bnd z0 z1 l 0 (checkDf_mem h) (by omega); omega) l 0 (by omega) (by omega)
  · omega
def knotsN (b : Bd) : Int := minI (worstD b.dfs * 1000 / maxI (b.xb - b.xa) (b.yb - b.ya)) 1000
theorem lenS_cross {a b : Int} (h : crossB a b = true) : lenS a b = b - a ∧ i64 a ∧ i64 b := by
  simp [crossB] at h
  unfold lenS i64
  repeat' split
  all_goals omega
theorem knots_run (b : Bd) (hx : crossB b.xa b.xb = true) (hy : crossB b.ya b.yb = true) : F_strength_Knots [.agg (eBd b)] = some (I (knotsN b)) := by
  rw [F_strength_Knots_eq]
  obtain ⟨_, p1⟩ := cross_bnd hx
  obtain ⟨_, p2⟩ := cross_bnd hy
  obtain ⟨e1, j1, j2⟩ := lenS_cross hx
  obtain ⟨e2, j3, j4⟩ := lenS_cross hy
  have l1 := slen_run b.xa b.xb j1 j2
  have l2 := slen_run b.ya b.yb j3 j4
  rw [e1] at l1
  rw [e2] at l2
  have hw := worst_run b.dfs
  obtain ⟨b1, b2⟩ := worstD_bnd b.dfs
  unfold knotsN minI
  have hq : 0 < maxI (b.xb - b.xa) (b.yb - b.ya) := by unfold maxI; split <;> omega
  have hq' : maxI (b.xb - b.xa) (b.yb - b.ya) = if b.xb - b.xa < b.yb - b.ya then b.yb - b.ya else b.xb - b.xa := rfl
  generalize maxI (b.xb - b.xa) (b.yb - b.ya) = q at *
  generalize worstD b.dfs = wd at *
  have w1 : IntKind.i64.wrap (wd * 1000) = wd * 1000 := wrap64 (by omega) (by omega)
  have e : (wd * 1000).tdiv q = wd * 1000 / q := Int.tdiv_eq_ediv_of_nonneg (by omega)
  have h1 : 0 ≤ wd * 1000 / q := Int.ediv_nonneg (by omega) (by omega)
  have h2 : wd * 1000 / q ≤ wd * 1000 := Int.ediv_le_self _ (by omega)
  have w2 : IntKind.i64.wrap (wd * 1000 / q) = wd * 1000 / q := wrap64 (by omega) (by omega)
  have c1 : ¬ q < 1 := by omega
  have c2 : ¬ q = 0 := by omega
  simp [l1, l2, ← hq', c1, c2, hw, w1, e, w2]
def stiffN (b : Bd) (w : Spc) : Int := maxI 0 ((w.stiff * (1000 - w.loss * knotsN b / 1000) / 1000 * (10000 - maxI 0 (mean b.cel - 1200))).tdiv 10000)
theorem knotsN_bnd (b : Bd) (hx : crossB b.xa b.xb = true) : 0 ≤ knotsN b ∧ knotsN b ≤ 1000 := by
  obtain ⟨b1, b2⟩ := worstD_bnd b.dfs
  obtain ⟨_, p1⟩ := cross_bnd hx
  have hq : 0 < maxI (b.xb - b.xa) (b.yb - b.ya) := by unfold maxI; split <;> omega
  have h1 : 0 ≤ worstD b.dfs * 1000 / maxI (b.xb - b.xa) (b.yb - b.ya) := Int.ediv_nonneg (by omega) (by omega)
  unfold knotsN minI
  split <;> omega
theorem stiff_run (b : Bd) (w : Spc) (hx : crossB b.xa b.xb = true) (hy : crossB b.ya b.yb = true) (hm : checkM b.cel = 0) (hl : 0 ≤ w.loss ∧ w.loss ≤ 1000) (hs : 1000 ≤ w.stiff ∧ w.stiff ≤ 30000) :
    F_strength_Stiffness [.agg (eBd b), .agg (eS w)] = some (I (stiffN b w)) := by
  rw [F_strength_Stiffness_eq]
  have hk := knots_run b hx hy
  have kb := knotsN_bnd b hx
  have hmn := mean_run b.cel
  have mb : 0 ≤ mean b.cel ∧ mean b.cel ≤ 20000 := by
    obtain ⟨h1, h2, _⟩ := checkM_zero.1 hm
    unfold mean
    rw [if_pos hm]
    omega
  unfold stiffN
  simp at hk hmn
  generalize mean b.cel = mn at *
  generalize knotsN b = k at *
  have h1 : w.loss * k ≤ 1000 * 1000 := Int.mul_le_mul hl.2 kb.2 kb.1 (by omega)
  have h2 : 0 ≤ w.loss * k := Int.mul_nonneg hl.1 kb.1
  have w1 : IntKind.i64.wrap (w.loss * k) = w.loss * k := wrap64 (by omega) (by omega)
  have e1 : (w.loss * k).tdiv 1000 = w.loss * k / 1000 := Int.tdiv_eq_ediv_of_nonneg h2
  have w2 : IntKind.i64.wrap (w.loss * k / 1000) = w.loss * k / 1000 := wrap64 (by omega) (by omega)
  generalize hq : w.loss * k / 1000 = q at *
  have q0 : 0 ≤ q ∧ q ≤ 1000 := by omega
  have w3 : IntKind.i64.wrap (1000 - q) = 1000 - q := wrap64 (by omega) (by omega)
  have h3 : w.stiff * (1000 - q) ≤ 30000 * 1000 := Int.mul_le_mul hs.2 (by omega) (by omega) (by omega)
  have h4 : 0 ≤ w.stiff * (1000 - q) := Int.mul_nonneg (by omega) (by omega)
  have w4 : IntKind.i64.wrap (w.stiff * (1000 - q)) = w.stiff * (1000 - q) := wrap64 (by omega) (by omega)
  have e2 : (w.stiff * (1000 - q)).tdiv 1000 = w.stiff * (1000 - q) / 1000 := Int.tdiv_eq_ediv_of_nonneg h4
  have w5 : IntKind.i64.wrap (w.stiff * (1000 - q) / 1000) = w.stiff * (1000 - q) / 1000 := wrap64 (by omega) (by omega)
  generalize hn : w.stiff * (1000 - q) / 1000 = n at *
  have n0 : 0 ≤ n ∧ n ≤ 30000 := by omega
  have w6 : IntKind.i64.wrap (mn - 1200) = mn - 1200 := wrap64 (by omega) (by omega)
  have m0 : 0 ≤ maxI 0 (mn - 1200) ∧ maxI 0 (mn - 1200) ≤ 20000 := by unfold maxI; split <;> omega
  have hm' : maxI 0 (mn - 1200) = if 1200 < mn then mn - 1200 else 0 := by
    unfold maxI
    repeat' split
    all_goals omega
  have w7 : IntKind.i64.wrap (10000 - maxI 0 (mn - 1200)) = 10000 - maxI 0 (mn - 1200) := wrap64 (by omega) (by omega)
  have h5 : n * (10000 - maxI 0 (mn - 1200)) ≤ 30000 * 10000 := by
    rcases (by omega : 0 ≤ 10000 - maxI 0 (mn - 1200) ∨ 10000 - maxI 0 (mn - 1200) ≤ 0) with c | c
    · exact Int.mul_le_mul n0.2 (by omega) c (by omega)
    · have := Int.mul_nonpos_of_nonneg_of_nonpos n0.1 c
      omega
  have h6 : -300000000 ≤ n * (10000 - maxI 0 (mn - 1200)) := by
    have h7 : n * -10000 ≤ n * (10000 - maxI 0 (mn - 1200)) := Int.mul_le_mul_of_nonneg_left (by omega) n0.1
    omega
  have w8 : IntKind.i64.wrap (n * (10000 - maxI 0 (mn - 1200))) = n * (10000 - maxI 0 (mn - 1200)) := wrap64 (by omega) (by omega)
  generalize hr : n * (10000 - maxI 0 (mn - 1200)) = r at *
  have t1 : -300000000 ≤ r.tdiv 10000 ∧ r.tdiv 10000 ≤ 300000000 := by
    rcases (by omega : 0 ≤ r ∨ 0 ≤ -r) with c | c
    · rw [Int.tdiv_eq_ediv_of_nonneg c]
      omega
    · have e := Int.tdiv_eq_ediv_of_nonneg (b := 10000) c
      rw [Int.neg_tdiv] at e
      omega
  have w9 : IntKind.i64.wrap (r.tdiv 10000) = r.tdiv 10000 := wrap64 (by omega) (by omega)
  rw [hm'] at w7 hr
  unfold maxI
  simp [hk, w1, e1, w2, hq, w3, w4, e2, w5, hn, hmn, w6, w7, w8, hr, w9]
def lenN (b : Bd) : Int := if alongB b.za b.zb = true then b.zb - b.za else 0
theorem blen_run (b : Bd) : F_board_Length [.agg (eBd b)] = some (I (lenN b)) := by
  rw [F_board_Length_eq]
  have h1 := along_run b.za b.zb
  have h2 := blength_run b.za b.zb
  unfold lenN
  cases h : alongB b.za b.zb
  · simp [h1, h]
  · obtain ⟨w, _⟩ := along_bnd h
    rw [w] at h2
    simp [h1, h, h2]
end Go.Proofs.YtldekjlihfidlaaGreatDoor
namespace Go.Proofs.YtldekjlihfidlaaGreatDoor
set_option linter.unusedSimpArgs false
set_option linter.unusedVariables false
open Go Go.Abs
set_option maxHeartbeats 8000000
set_option maxRecDepth 100000
/-- The names of the features. -/
def nThick : ByteArray := ⟨#[116, 104, 105, 99, 107]⟩
def nWidth : ByteArray := ⟨#[119, 105, 100, 116, 104]⟩
def nLength : ByteArray := ⟨#[108, 101, 110, 103, 116, 104]⟩
def nKnots : ByteArray := ⟨#[107, 110, 111, 116, 115]⟩
def nDead : ByteArray := ⟨#[100, 101, 97, 100]⟩
def nRot : ByteArray := ⟨#[114, 111, 116]⟩
def nCracks : ByteArray := ⟨#[99, 114, 97, 99, 107, 115]⟩
def nResin : ByteArray := ⟨#[114, 101, 115, 105, 110]⟩
def nInsects : ByteArray := ⟨#[105, 110, 115, 101, 99, 116, 115]⟩
def nMaxknot : ByteArray := ⟨#[109, 97, 120, 107, 110, 111, 116]⟩
def nMaxdead : ByteArray := ⟨#[109, 97, 120, 100, 101, 97, 100]⟩
def nWorst : ByteArray := ⟨#[119, 111, 114, 115, 116]⟩
def nWane : ByteArray := ⟨#[119, 97, 110, 101]⟩
def nChecks : ByteArray := ⟨#[99, 104, 101, 99, 107, 115]⟩
def nMoist : ByteArray := ⟨#[109, 111, 105, 115, 116]⟩
def nGradient : ByteArray := ⟨#[103, 114, 97, 100, 105, 101, 110, 116]⟩
def nUnder : ByteArray := ⟨#[117, 110, 100, 101, 114]⟩
def nStiff : ByteArray := ⟨#[115, 116, 105, 102, 102]⟩
def nmsF : List ByteArray := [nThick, nWidth, nLength, nKnots, nDead, nRot, nCracks, nResin, nInsects, nMaxknot, nMaxdead, nWorst, nWane, nChecks, nMoist, nGradient, nUnder, nStiff]
/-- A feature. -/
def eFt (x : ByteArray × Int) : List D := [S x.1, I x.2]
@[simp] theorem eFt_eq (x : ByteArray × Int) : eFt x = [S x.1, I x.2] := rfl
def eNm (s : ByteArray) : List D := [S s]
@[simp] theorem eNm_eq (s : ByteArray) : eNm s = [S s] := rfl
def feats (b : Bd) (p : Pd) (w : Spc) : List (ByteArray × Int) :=
  [(nThick, p.thick), (nWidth, p.width), (nLength, lenN b), (nKnots, cntD 1 0 b.dfs), (nDead, cntD 2 0 b.dfs), (nRot, cntD 3 0 b.dfs), (nCracks, cntD 4 0 b.dfs), (nResin, cntD 5 0 b.dfs), (nInsects, cntD 6 0 b.dfs), (nMaxknot, lrgD 1 0 b.dfs), (nMaxdead, lrgD 2 0 b.dfs), (nWorst, worstD b.dfs), (nWane, b.wane), (nChecks, cracks b.cel w), (nMoist, mean b.cel), (nGradient, grad b.cel), (nUnder, (if underB b p w = true then 1 else 0)), (nStiff, stiffN b w)]
theorem names_run : F_feature_Names [] = some (.own true (nmsF.map eNm)) := by
  rw [F_feature_Names_eq]
  simp [nmsF, nThick, nWidth, nLength, nKnots, nDead, nRot, nCracks, nResin, nInsects, nMaxknot, nMaxdead, nWorst, nWane, nChecks, nMoist, nGradient, nUnder, nStiff]
theorem add_run (k : Nat) (nm : ByteArray) (hk : nmsF[k]? = some nm) (fl : Bool) (es : List (List D)) (hl : es.length = k) (n : Int) :
    E_feature_Of_1 [(1000, .box 64 [.row 110000]), (110000, .row 92 2 fl es), (1001, .box 68 [.sl (nmsF.map eNm)])] [I n, .ptr 1000 0, .ptr 1001 0] =
      some (.tup [], [(1000, .box 64 [.row 110000]), (1001, .box 68 [.sl (nmsF.map eNm)]), (110000, .row 92 2 fl (es ++ [[S nm, I n]]))]) := by
  rw [E_feature_Of_1_eq]
  have h1 : (nmsF.map eNm)[es.length]? = some [S nm] := by rw [List.getElem?_map, hl, hk]; rfl
  have h2 : es.length < nmsF.length := by
    have := (List.getElem?_eq_some_iff.1 hk).1
    omega
  have h3 : (es.length : Int) < nmsF.length := by omega
  have h4 : nmsF.length = 18 := rfl
  have h5 : (es.length + 1) * 25 ≤ 140737488355328 := by omega
  simp [h1, h3, h5]
theorem checkB_zero {b : Bd} {c : List Pd} (h : checkB b c = 0) : ∃ p, c[b.prod.toNat]? = some p ∧ 0 ≤ b.prod ∧ checkPd c = 0 ∧ restE b p = 0 := by
  unfold checkB at h
  by_cases h1 : checkPd c = 0
  · rw [if_pos h1] at h
    split at h
    · split at h
      · omega
      · split at h
        · rename_i p hp
          exact ⟨p, hp, by omega, h1, h⟩
        · omega
    · omega
  · rw [if_neg h1] at h
    exact absurd h h1
theorem restE_zero {b : Bd} {p : Pd} (h : restE b p = 0) : boxB b = true ∧ checkDf b.dfs = 0 ∧ checkM b.cel = 0 ∧ 0 ≤ b.wane ∧ b.wane ≤ 1000 := by
  unfold restE at h
  repeat' split at h
  all_goals first | omega | skip
  all_goals simp_all
theorem checkW_zero {w : Spc} (h : checkW w = 0) : (0 ≤ w.loss ∧ w.loss ≤ 1000) ∧ (1000 ≤ w.stiff ∧ w.stiff ≤ 30000) ∧ 0 ≤ w.shrink ∧ w.shrink ≤ 200 := by
  unfold checkW at h
  repeat' split at h
  all_goals first | omega | skip
  rename_i _ h2
  simp [rangeW] at h2
  omega
theorem of_run (b : Bd) (c : List Pd) (w : Spc) (p : Pd) (hB : checkB b c = 0) (hW : checkW w = 0) (hp : c[b.prod.toNat]? = some p) :
    F_feature_Of [.agg (eBd b), .sl (c.map ePd), .agg (eS w)] = some (.own true ((feats b p w).map eFt)) := by
  rw [F_feature_Of_eq]
  have hb := bcheck_run b c
  have hw := wood_run w
  rw [hB] at hb
  rw [hW] at hw
  obtain ⟨p', hp', h0, hc0, hr⟩ := checkB_zero hB
  rw [hp] at hp'
  cases hp'
  obtain ⟨hx, hdf, hcm, _⟩ := restE_zero hr
  obtain ⟨k1, k2, k3⟩ := box_bnd hx
  obtain ⟨wl, ws, wk⟩ := checkW_zero hW
  have h6 : (c.map ePd)[b.prod.toNat]? = some (ePd p) := by rw [List.getElem?_map, hp]; rfl
  have hl := checkDf_len hdf
  have hg : ∀ d ∈ b.dfs, Rng d := fun d hd => (dfE_rng (checkDf_mem hdf d hd)).1
  have r1 := blen_run b
  have c1 := fun k => count_run b.dfs k (by omega)
  have c2 := fun k => largest_run b.dfs k (by omega) hg
  have c3 := worst_run b.dfs
  have m1 := cracks_run b.cel w
  have m2 := mean_run b.cel
  have m3 := grad_run b.cel
  have u1 := under_run b p w k1 k2 wk
  have s1 := stiff_run b w k1 k2 hcm wl ws
  have a0 := add_run 0 nThick rfl
  have a1 := add_run 1 nWidth rfl
  have a2 := add_run 2 nLength rfl
  have a3 := add_run 3 nKnots rfl
  have a4 := add_run 4 nDead rfl
  have a5 := add_run 5 nRot rfl
  have a6 := add_run 6 nCracks rfl
  have a7 := add_run 7 nResin rfl
  have a8 := add_run 8 nInsects rfl
  have a9 := add_run 9 nMaxknot rfl
  have a10 := add_run 10 nMaxdead rfl
  have a11 := add_run 11 nWorst rfl
  have a12 := add_run 12 nWane rfl
  have a13 := add_run 13 nChecks rfl
  have a14 := add_run 14 nMoist rfl
  have a15 := add_run 15 nGradient rfl
  have a16 := add_run 16 nUnder rfl
  have a17 := add_run 17 nStiff rfl
  unfold feats
  generalize lenN b = v2 at *
  generalize worstD b.dfs = v11 at *
  generalize cracks b.cel w = v13 at *
  generalize mean b.cel = v14 at *
  generalize grad b.cel = v15 at *
  generalize underB b p w = v16 at *
  generalize stiffN b w = v17 at *
  simp at hb hw r1 m1 m2 m3 u1 s1
  have hm := bigL_succ 7 (by omega)
  obtain ⟨m, hm⟩ := hm
  have S := names_run
  have h6' : ¬ b.prod < 0 := by omega
  simp [hb, hw, h0, h6, S, r1, a0, a1, a2]
  rw [hm]
  rw [L_feature_Of_succ, R_feature_Of_eq]
  simp [c1, a3]
  rw [L_feature_Of_succ, R_feature_Of_eq]
  simp [c1, a4]
  rw [L_feature_Of_succ, R_feature_Of_eq]
  simp [c1, a5]
  rw [L_feature_Of_succ, R_feature_Of_eq]
  simp [c1, a6]
  rw [L_feature_Of_succ, R_feature_Of_eq]
  simp [c1, a7]
  rw [L_feature_Of_succ, R_feature_Of_eq]
  simp [c1, a8]
  rw [L_feature_Of_succ, R_feature_Of_eq]
  simp [c2, c3, m1, m2, m3, a9, a10, a11, a12, a13, a14, a15]
  cases v16
  · simp [u1, s1, a16, a17]
  · simp [u1, s1, a16, a17]
theorem of_none (b : Bd) (c : List Pd) (w : Spc) (h : ¬ (checkB b c = 0 ∧ checkW w = 0)) : F_feature_Of [.agg (eBd b), .sl (c.map ePd), .agg (eS w)] = some (.own true []) := by
  rw [F_feature_Of_eq]
  have hb := bcheck_run b c
  have hw := wood_run w
  simp at hb hw
  by_cases h1 : checkB b c = 0
  · have h2 : ¬ checkW w = 0 := fun h2 => h ⟨h1, h2⟩
    simp [hb, hw, h1, h2]
  · simp [hb, h1]
/-- The features of a board, or none. -/
def featsO (b : Bd) (c : List Pd) (w : Spc) : List (ByteArray × Int) := if checkB b c = 0 ∧ checkW w = 0 then match c[b.prod.toNat]? with
  | some p => feats b p w
  | none => []
  else []
theorem ofO_run (b : Bd) (c : List Pd) (w : Spc) : F_feature_Of [.agg (eBd b), .sl (c.map ePd), .agg (eS w)] = some (.own true ((featsO b c w).map eFt)) := by
  unfold featsO
  by_cases h : checkB b c = 0 ∧ checkW w = 0
  · rw [if_pos h]
    obtain ⟨p, hp, _⟩ := checkB_zero h.1
    rw [hp]
    exact of_run b c w p h.1 h.2 hp
  · rw [if_neg h]
    exact of_none b c w h
/-- A feature in a list. -/
def getF (nm : ByteArray) : List (ByteArray × Int) → Int × Bool
  | [] => (0, false)
  | x :: r => if x.1 = nm then (x.2, true) else getF nm r
end Go.Proofs.YtldekjlihfidlaaGreatDoor
namespace Go.Proofs.YtldekjlihfidlaaGreatDoor
set_option linter.unusedSimpArgs false
set_option linter.unusedVariables false
open Go Go.Abs
set_option maxHeartbeats 8000000
set_option maxRecDepth 100000
/-- A board, its catalog and its species. -/
structure Gd where
  b : Bd
  ps : List Pd
  s : Spc
def eGd (g : Gd) : List D := [S g.b.id, S g.b.log, S g.b.sp, I g.b.prod, I g.b.xa, I g.b.xb, I g.b.ya, I g.b.yb, I g.b.za, I g.b.zb, I g.b.vol, .sl (g.b.dfs.map eDf), I g.b.wane, I g.b.cel.s, I g.b.cel.c, I g.b.cel.st, B g.b.dried, I g.b.grade, .sl (g.ps.map ePd),
  S g.s.name, I g.s.green, I g.s.fast, I g.s.slow, I g.s.safe, I g.s.grad, I g.s.crack, I g.s.temp, I g.s.dep, I g.s.dens, I g.s.stiff, I g.s.loss, I g.s.shrink]
@[simp] theorem eGd_eq (g : Gd) : eGd g = [S g.b.id, S g.b.log, S g.b.sp, I g.b.prod, I g.b.xa, I g.b.xb, I g.b.ya, I g.b.yb, I g.b.za, I g.b.zb, I g.b.vol, .sl (g.b.dfs.map eDf), I g.b.wane, I g.b.cel.s, I g.b.cel.c, I g.b.cel.st, B g.b.dried, I g.b.grade, .sl (g.ps.map ePd),
  S g.s.name, I g.s.green, I g.s.fast, I g.s.slow, I g.s.safe, I g.s.grad, I g.s.crack, I g.s.temp, I g.s.dep, I g.s.dens, I g.s.stiff, I g.s.loss, I g.s.shrink] := rfl
def featsG (g : Gd) : List (ByteArray × Int) := featsO g.b g.ps g.s
theorem get_loop (l : List (ByteArray × Int)) (nm : ByteArray) (hl : l.length ≤ 1000) : ∀ (n i : Nat) (r : List (ByteArray × Int)), l.drop i = r → r.length < n →
    L_feature_Get 2 n ⟨[(0, .any), (1, S nm), (4, .any), (5, .any), (7, .any), (8, .sl (l.map eFt)), (9, I l.length), (10, I i)], []⟩ =
      if (getF nm r).2 = true then some (.ret, ⟨[(0, .any), (1, .any), (4, I (getF nm r).1), (5, B true), (7, .any), (8, .any), (9, .any), (10, .any)], []⟩)
      else some (.ex 0, ⟨[(0, .any), (1, .any), (4, .any), (5, .any), (7, .any), (8, .any), (9, .any), (10, .any)], []⟩) := by
  refine lind l _ ?_ ?_
  · intro n i hr
    rw [L_feature_Get_succ, R_feature_Get_eq]
    simp [dn hr, getF]
  · intro n i x r hr hi ih
    rw [L_feature_Get_succ, R_feature_Get_eq]
    obtain ⟨h1, h3, hr', _⟩ := dc (enc := eFt) hr
    have hw := wrapN (n := i) (by omega)
    simp at ih
    by_cases c : x.1 = nm
    · simp [h1, h3, getF, c]
    · simp [h1, h3, getF, c, hw, ih]
theorem getF_zero (nm : ByteArray) : ∀ l : List (ByteArray × Int), (getF nm l).2 = false → (getF nm l).1 = 0
  | [], _ => rfl
  | x :: r, h => by
    unfold getF at h ⊢
    split
    · rename_i c
      simp [c] at h
    · rename_i c
      rw [if_neg c] at h
      exact getF_zero nm r h
theorem get_run (l : List (ByteArray × Int)) (nm : ByteArray) (hl : l.length ≤ 1000) : F_feature_Get [.sl (l.map eFt), S nm] = some (.tup [I (getF nm l).1, B (getF nm l).2]) := by
  rw [F_feature_Get_eq]
  have ih := get_loop l nm hl bigL 0 l rfl (by have := bigL_ge; omega)
  have hz := getF_zero nm l
  simp at ih
  cases h : (getF nm l).2
  · rw [h] at ih
    simp at ih
    simp [ih, hz h]
  · rw [h] at ih
    simp at ih
    simp [ih]
theorem rget_loop (l : List (ByteArray × Int)) (nm : ByteArray) (hl : l.length ≤ 1000) : ∀ (n i : Nat) (r : List (ByteArray × Int)), l.drop i = r → r.length < n →
    L_ref42_Get 2 n ⟨[(0, .sl (l.map eFt)), (1, S nm), (4, .any), (5, .any), (6, I i)], []⟩ =
      if (getF nm r).2 = true then some (.ret, ⟨[(0, .any), (1, .any), (4, I (getF nm r).1), (5, B true), (6, .any)], []⟩)
      else some (.ex 0, ⟨[(0, .any), (1, .any), (4, .any), (5, .any), (6, .any)], []⟩) := by
  refine lind l _ ?_ ?_
  · intro n i hr
    rw [L_ref42_Get_succ, R_ref42_Get_eq]
    simp [dn hr, getF]
  · intro n i x r hr hi ih
    rw [L_ref42_Get_succ, R_ref42_Get_eq]
    obtain ⟨h1, h3, hr', _⟩ := dc (enc := eFt) hr
    have hw := wrapN (n := i) (by omega)
    simp at ih
    by_cases c : x.1 = nm
    · simp [h1, h3, getF, c]
    · simp [h1, h3, getF, c, hw, ih]
theorem rget_run (l : List (ByteArray × Int)) (nm : ByteArray) (hl : l.length ≤ 1000) : F_ref42_Get [.sl (l.map eFt), S nm] = some (.tup [I (getF nm l).1, B (getF nm l).2]) := by
  rw [F_ref42_Get_eq]
  have ih := rget_loop l nm hl bigL 0 l rfl (by have := bigL_ge; omega)
  have hz := getF_zero nm l
  simp at ih
  cases h : (getF nm l).2
  · rw [h] at ih
    simp at ih
    simp [ih, hz h]
  · rw [h] at ih
    simp at ih
    simp [ih]
def sameF : List (ByteArray × Int) → List (ByteArray × Int) → Bool
  | [], [] => true
  | x :: r, y :: q => if x = y then sameF r q else false
  | _, _ => false
theorem sameF_iff : ∀ l m : List (ByteArray × Int), sameF l m = true ↔ l = m
  | [], [] => by simp [sameF]
  | [], y :: q => by simp [sameF]
  | x :: r, [] => by simp [sameF]
  | x :: r, y :: q => by
    unfold sameF
    by_cases h : x = y
    · simp [h, sameF_iff r q]
    · simp [h]
theorem rnames_run : F_ref42_Names [] = some (.own true (nmsF.map eNm)) := by
  rw [F_ref42_Names_eq]
  simp [nmsF, nThick, nWidth, nLength, nKnots, nDead, nRot, nCracks, nResin, nInsects, nMaxknot, nMaxdead, nWorst, nWane, nChecks, nMoist, nGradient, nUnder, nStiff]
end Go.Proofs.YtldekjlihfidlaaGreatDoor
namespace Go.Proofs.YtldekjlihfidlaaGreatDoor
set_option linter.unusedSimpArgs false
set_option linter.unusedVariables false
open Go Go.Abs
set_option maxHeartbeats 8000000
set_option maxRecDepth 100000
theorem rlen3_run (a b : Int) (ha : i64 a) (hb : i64 b) : F_ref03_Len [.agg [I a, I b]] = some (I (lenS a b)) := by
  rw [F_ref03_Len_eq]
  unfold i64 at ha hb
  unfold lenS
  by_cases c : b ≤ a
  · simp [c]
  by_cases c2 : a < 0
  · have w : IntKind.i64.wrap (9223372036854775807 + a) = 9223372036854775807 + a := wrap64 (by omega) (by omega)
    by_cases c3 : 9223372036854775807 + a < b
    · have c4 : 9223372036854775807 < b - a := by omega
      simp [c, c2, w, c3, c4]
    · have c4 : ¬ 9223372036854775807 < b - a := by omega
      have w2 : IntKind.i64.wrap (b - a) = b - a := wrap64 (by omega) (by omega)
      simp [c, c2, w, c3, c4, w2]
  · have c4 : ¬ 9223372036854775807 < b - a := by omega
    have w2 : IntKind.i64.wrap (b - a) = b - a := wrap64 (by omega) (by omega)
    simp [c, c2, c4, w2]
theorem rdsize_run (d : Dfc) (h : Rng d) : F_ref13_Size [.agg (eDf d)] = some (I (sizeD d)) := by
  rw [F_ref13_Size_eq]
  have h1 := rlen3_run d.xa d.xb h.xa h.xb
  have h2 := rlen3_run d.ya d.yb h.ya h.yb
  unfold sizeD
  simp [h1, h2]
theorem rcount_loop (l : List Dfc) (k : Int) (hl : l.length ≤ 1000) : ∀ (n i : Nat) (r : List Dfc), l.drop i = r → r.length < n → ∀ s : Int, 0 ≤ s → s ≤ i →
    L_ref13_Count 3 n ⟨[(0, .sl (l.map eDf)), (1, I k), (4, .any), (5, I s), (6, I i)], []⟩ =
      some (.ex 0, ⟨[(0, .any), (1, .any), (4, .any), (5, I (cntD k s r)), (6, .any)], []⟩) := by
  refine lind l _ ?_ ?_
  · intro n i hr s h0 h1
    rw [L_ref13_Count_succ, R_ref13_Count_eq]
    simp [dn hr, cntD]
  · intro n i d r hr hi ih s h0 hs
    rw [L_ref13_Count_succ, R_ref13_Count_eq]
    obtain ⟨h1, h3, hr', _⟩ := dc (enc := eDf) hr
    have hw := wrapN (n := i) (by omega)
    have ws : IntKind.i64.wrap (s + 1) = s + 1 := wrap64 (by omega) (by omega)
    unfold cntD
    by_cases c : d.kind = k
    · have ih' := ih (s + 1) (by omega) (by omega)
      simp at ih'
      simp [h1, h3, c, hw, ws, ih']
    · have ih' := ih s (by omega) (by omega)
      simp at ih'
      simp [h1, h3, c, hw, ih']
theorem rcount_run (l : List Dfc) (k : Int) (hl : l.length ≤ 1000) : F_ref13_Count [.sl (l.map eDf), I k] = some (I (cntD k 0 l)) := by
  rw [F_ref13_Count_eq]
  have ih := rcount_loop l k hl bigL 0 l rfl (by have := bigL_ge; omega) 0 (by omega) (by omega)
  simp at ih
  simp [ih]
theorem rlargest_loop (l : List Dfc) (k : Int) (hl : l.length ≤ 1000) (hg : ∀ d ∈ l, Rng d) : ∀ (n i : Nat) (r : List Dfc), l.drop i = r → r.length < n → ∀ s : Int,
    L_ref13_Largest 3 n ⟨[(0, .sl (l.map eDf)), (1, I k), (4, .any), (5, I s), (6, I i)], []⟩ =
      some (.ex 0, ⟨[(0, .any), (1, .any), (4, .any), (5, I (lrgD k s r)), (6, .any)], []⟩) := by
  refine lind l _ ?_ ?_
  · intro n i hr s
    rw [L_ref13_Largest_succ, R_ref13_Largest_eq]
    simp [dn hr, lrgD]
  · intro n i d r hr hi ih s
    rw [L_ref13_Largest_succ, R_ref13_Largest_eq]
    obtain ⟨h1, h3, hr', _⟩ := dc (enc := eDf) hr
    have hw := wrapN (n := i) (by omega)
    have hz := rdsize_run d (hg d (List.mem_of_mem_drop (hr ▸ List.mem_cons_self : d ∈ l.drop i)))
    simp at hz
    unfold lrgD
    by_cases c : d.kind = k
    · have ih' := ih (if s < sizeD d then sizeD d else s)
      simp at ih'
      rw [c] at hz
      simp [h1, h3, c, hz, hw, ih']
    · have ih' := ih s
      simp at ih'
      simp [h1, h3, c, hw, ih']
theorem rlargest_run (l : List Dfc) (k : Int) (hl : l.length ≤ 1000) (hg : ∀ d ∈ l, Rng d) : F_ref13_Largest [.sl (l.map eDf), I k] = some (I (lrgD k 0 l)) := by
  rw [F_ref13_Largest_eq]
  have ih := rlargest_loop l k hl hg bigL 0 l rfl (by have := bigL_ge; omega) 0
  simp at ih
  simp [ih]
theorem rknot_run (d : Dfc) : F_ref13_Knot [.agg (eDf d)] = some (B (knotB d)) := by
  rw [F_ref13_Knot_eq]
  simp [knotB]
theorem rmeet_run (a b c d : Int) : F_ref03_Meet [.agg [I a, I b], .agg [I c, I d]] = some (.agg [I (if meetB a b c d = true then if a < c then c else a else 0), I (if meetB a b c d = true then if d < b then d else b else 0)]) := by
  rw [F_ref03_Meet_eq]
  have e : ∀ x y : Int, (if y ≤ x then (0 : Int) else x) = if decide (x < y) = true then x else 0 := by
    intro x y
    by_cases h : x < y
    · have : ¬ y ≤ x := by omega
      simp [h, this]
    · have : y ≤ x := by omega
      simp [h, this]
  have e' : ∀ x y : Int, (if y ≤ x then (0 : Int) else y) = if decide (x < y) = true then y else 0 := by
    intro x y
    by_cases h : x < y
    · have : ¬ y ≤ x := by omega
      simp [h, this]
    · have : y ≤ x := by omega
      simp [h, this]
  simp
  unfold meetB
  rw [e, e']
  exact ⟨by simp, by simp⟩
theorem meet_lt (a b c d : Int) : decide ((if meetB a b c d = true then if a < c then c else a else 0) < (if meetB a b c d = true then if d < b then d else b else 0)) = meetB a b c d := by
  cases h : meetB a b c d
  · simp
  · simp [meetB] at h
    simp
    exact h
theorem rsum_loop (l : List Dfc) (hl : l.length ≤ 64) (hd : ∀ d ∈ l, dfE d = 0) (z0 z1 : Int) : ∀ (n i : Nat) (r : List Dfc), l.drop i = r → r.length < n → ∀ s : Int, 0 ≤ s → s ≤ 1200 * i →
    L_ref13_window 3 n ⟨[(0, .sl (l.map eDf)), (1, .any), (3, .ptr 3 0), (4, .any), (5, I s), (6, I i), (7, .any)], [(3, .box 23 [I z0, I z1])]⟩ =
      some (.ex 0, ⟨[(0, .any), (1, .any), (3, .any), (4, .any), (5, I (sumW z0 z1 s r)), (6, .any), (7, .any)], []⟩) := by
  refine lind l _ ?_ ?_
  · intro n i hr s h0 h1
    rw [L_ref13_window_succ, R_ref13_window_eq]
    simp [dn hr, sumW]
  · intro n i d r hr hi ih s h0 hs
    rw [L_ref13_window_succ, R_ref13_window_eq]
    obtain ⟨h1, h3, hr', _⟩ := dc (enc := eDf) hr
    have hw := wrapN (n := i) (by omega)
    obtain ⟨hg, hp, hb⟩ := dfE_rng (hd d (List.mem_of_mem_drop (hr ▸ List.mem_cons_self : d ∈ l.drop i)))
    have hz := rdsize_run d hg
    have hk := rknot_run d
    have hm := rmeet_run d.za d.zb z0 z1
    have he := meet_lt d.za d.zb z0 z1
    generalize (if meetB d.za d.zb z0 z1 = true then if d.za < z0 then z0 else d.za else 0) = m1 at *
    generalize (if meetB d.za d.zb z0 z1 = true then if z1 < d.zb then z1 else d.zb else 0) = m2 at *
    have ws : IntKind.i64.wrap (s + sizeD d) = s + sizeD d := wrap64 (by omega) (by omega)
    unfold sumW
    simp at hz hk
    cases c1 : knotB d
    · have ih' := ih s (by omega) (by omega)
      simp at ih'
      rw [c1] at hk
      simp [h1, h3, hm, hk, hw, ih']
    · rw [c1] at hk
      cases c2 : meetB d.za d.zb z0 z1
      · have ih' := ih s (by omega) (by omega)
        simp at ih'
        rw [c2] at he
        simp at he
        have he' : ¬ m1 < m2 := by omega
        simp [h1, h3, hk, hm, he', hw, ih']
      · have ih' := ih (s + sizeD d) (by omega) (by omega)
        simp at ih'
        rw [c2] at he
        simp at he
        simp [h1, h3, hk, hm, he, hz, hw, ws, ih']
theorem rwindow_run (l : List Dfc) (hl : l.length ≤ 64) (hd : ∀ d ∈ l, dfE d = 0) (z0 z1 : Int) : F_ref13_window [.sl (l.map eDf), .agg [I z0, I z1]] = some (I (sumW z0 z1 0 l)) := by
  rw [F_ref13_window_eq]
  have ih := rsum_loop l hl hd z0 z1 bigL 0 l rfl (by have := bigL_ge; omega) 0 (by omega) (by omega)
  simp at ih
  simp [ih]
theorem rworst_loop (l : List Dfc) (hl : l.length ≤ 64) (hd : ∀ d ∈ l, dfE d = 0) : ∀ (n i : Nat) (r : List Dfc), l.drop i = r → r.length < n → ∀ w : Int,
    L_ref13_Worst 5 n ⟨[(0, .sl (l.map eDf)), (1, I 150), (4, .any), (5, I w), (6, I i), (7, .any)], []⟩ =
      some (.ex 0, ⟨[(0, .any), (1, .any), (4, .any), (5, I (wrsD l w r)), (6, .any), (7, .any)], []⟩) := by
  refine lind l _ ?_ ?_
  · intro n i hr w
    rw [L_ref13_Worst_succ, R_ref13_Worst_eq]
    simp [dn hr, wrsD]
  · intro n i d r hr hi ih w
    rw [L_ref13_Worst_succ, R_ref13_Worst_eq]
    obtain ⟨h1, h3, hr', _⟩ := dc (enc := eDf) hr
    have hw := wrapN (n := i) (by omega)
    obtain ⟨_, _, _, hz⟩ := dfE_zero (hd d (List.mem_of_mem_drop (hr ▸ List.mem_cons_self : d ∈ l.drop i)))
    have w1 : IntKind.i64.wrap (d.za - 150) = d.za - 150 := wrap64 (by omega) (by omega)
    have w2 : IntKind.i64.wrap (d.za - 150 + 1) = d.za - 149 := by rw [wrap64 (by omega) (by omega)]; omega
    have w3 : IntKind.i64.wrap (d.za - 149 + 150) = d.za + 1 := by rw [wrap64 (by omega) (by omega)]; omega
    have is := rwindow_run l hl hd (d.za - 149) (d.za + 1)
    have ih' := ih (if w < sumW (d.za - 149) (d.za + 1) 0 l then sumW (d.za - 149) (d.za + 1) 0 l else w)
    unfold wrsD
    simp at ih'
    simp [h1, h3, w1, w2, w3, is, hw, ih']
theorem rworst_run (l : List Dfc) : F_ref13_Worst [.sl (l.map eDf), I 150] = some (I (worstD l)) := by
  rw [F_ref13_Worst_eq]
  have hc := rcheckDf_run l
  unfold worstD
  by_cases h : checkDf l = 0
  · have ih := rworst_loop l (checkDf_len h) (checkDf_mem h) bigL 0 l rfl (by have := bigL_ge; have := checkDf_len h; omega) 0
    simp at ih
    simp [hc, h, ih]
  · simp [hc, h]
end Go.Proofs.YtldekjlihfidlaaGreatDoor
namespace Go.Proofs.YtldekjlihfidlaaGreatDoor
set_option linter.unusedSimpArgs false
set_option linter.unusedVariables false
open Go Go.Abs
set_option maxHeartbeats 8000000
set_option maxRecDepth 100000
theorem rlenN_run (b : Bd) (h : alongB b.za b.zb = true) : F_ref30_Length [.agg (eBd b)] = some (I (lenN b)) := by
  rw [F_ref30_Length_eq]
  have h2 := rlength_run b.za b.zb
  have h1 := within_run b.za b.zb 0 20000
  obtain ⟨w, p⟩ := along_bnd h
  rw [w] at h2
  have hb : (decide (0 ≤ b.za) && (decide (b.za ≤ 20000) && (decide (0 ≤ b.zb) && decide (b.zb ≤ 20000)))) = true := by
    simp [alongB] at h
    simp
    omega
  rw [hb] at h1
  have c : ¬ b.zb - b.za < 0 := by omega
  have c' : 0 < b.zb - b.za := by omega
  have c2 : b.za < b.zb := by omega
  unfold lenN
  simp [h, h1, h2, c, c', c2]
theorem placed39_run (a b : Int) : F_ref39_placed [.agg [I a, I b]] = some (B (crossB a b)) := by
  rw [F_ref39_placed_eq]
  simp
  rw [Bool.eq_iff_iff]
  simp [crossB]
  omega
theorem sizes_run (xa xb ya yb za zb : Int) (hx : crossB xa xb = true) (hy : crossB ya yb = true) : F_ref39_Sizes [.agg [I xa, I xb, I ya, I yb, I za, I zb]] = some (.tup [I (minI (xb - xa) (yb - ya)), I (maxI (xb - xa) (yb - ya))]) := by
  rw [F_ref39_Sizes_eq]
  have h1 := placed39_run xa xb
  have h2 := placed39_run ya yb
  rw [hx] at h1
  rw [hy] at h2
  obtain ⟨w1, _⟩ := cross_bnd hx
  obtain ⟨w2, _⟩ := cross_bnd hy
  unfold minI maxI
  simp [h1, h2, w1, w2]
theorem rshrunk_run (w : Spc) (z m : Int) (hz : 0 ≤ z ∧ z ≤ 20000) (hs : 0 ≤ w.shrink ∧ w.shrink ≤ 200) : F_ref34_Shrunk [.agg (eS w), I z, I m] = some (I (shrN w z m)) := by
  rw [F_ref34_Shrunk_eq]
  obtain ⟨b1, b2⟩ := shr_bnd (m := m) hz hs
  have hc := clamp3_bnd m
  have f1 := from34_run z 0 20000
  have f2 := from34_run w.shrink 0 200
  have hb1 : (decide (0 ≤ z) && decide (z ≤ 20000)) = true := by simp; omega
  have hb2 : (decide (0 ≤ w.shrink) && decide (w.shrink ≤ 200)) = true := by simp; omega
  rw [hb1] at f1
  rw [hb2] at f2
  have e0 : (if 3000 < (if m < 0 then 0 else m) then 3000 else (if m < 0 then 0 else m)) = clampN m 0 3000 := by
    unfold clampN
    repeat' split
    all_goals omega
  have w1 : IntKind.i64.wrap (3000 - clampN m 0 3000) = 3000 - clampN m 0 3000 := wrap64 (by omega) (by omega)
  have w2 : IntKind.i64.wrap (z * w.shrink) = z * w.shrink := wrap64 (by omega) (by omega)
  unfold shrN
  generalize clampN m 0 3000 = q at *
  have w3 : IntKind.i64.wrap (z * w.shrink * (3000 - q)) = z * w.shrink * (3000 - q) := wrap64 (by omega) (by omega)
  have e : (z * w.shrink * (3000 - q)).tdiv 3000000 = z * w.shrink * (3000 - q) / 3000000 := Int.tdiv_eq_ediv_of_nonneg (by omega)
  have w4 : IntKind.i64.wrap (z * w.shrink * (3000 - q) / 3000000) = z * w.shrink * (3000 - q) / 3000000 := wrap64 (by omega) (by omega)
  have w5 : IntKind.i64.wrap (z - z * w.shrink * (3000 - q) / 3000000) = z - z * w.shrink * (3000 - q) / 3000000 := wrap64 (by omega) (by omega)
  simp [f1, f2, e0, w1, w2, w3, e, w4, w5]
theorem rdried_run (b : Bd) (w : Spc) (hx : crossB b.xa b.xb = true) (hy : crossB b.ya b.yb = true) (hs : 0 ≤ w.shrink ∧ w.shrink ≤ 200) :
    F_ref39_Dried [.agg (eBd b), .agg (eS w)] = some (.tup [I (shrN w (minI (b.xb - b.xa) (b.yb - b.ya)) (mean b.cel)), I (shrN w (maxI (b.xb - b.xa) (b.yb - b.ya)) (mean b.cel))]) := by
  rw [F_ref39_Dried_eq]
  obtain ⟨w1, p1⟩ := cross_bnd hx
  obtain ⟨w2, p2⟩ := cross_bnd hy
  have hz := sizes_run b.xa b.xb b.ya b.yb b.za b.zb hx hy
  have hm := rmean_run b.cel
  have q1 : 0 < minI (b.xb - b.xa) (b.yb - b.ya) ∧ minI (b.xb - b.xa) (b.yb - b.ya) ≤ 1200 := by unfold minI; split <;> omega
  have q2 : 0 < maxI (b.xb - b.xa) (b.yb - b.ya) ∧ maxI (b.xb - b.xa) (b.yb - b.ya) ≤ 1200 := by unfold maxI; split <;> omega
  have s1 := rshrunk_run w (minI (b.xb - b.xa) (b.yb - b.ya)) (mean b.cel) (by omega) hs
  have s2 := rshrunk_run w (maxI (b.xb - b.xa) (b.yb - b.ya)) (mean b.cel) (by omega) hs
  generalize minI (b.xb - b.xa) (b.yb - b.ya) = t at *
  generalize maxI (b.xb - b.xa) (b.yb - b.ya) = u at *
  have c : ¬ t = 0 := by omega
  simp at hm s1 s2
  simp [hz, hm, c, s1, s2]
theorem runder_run (b : Bd) (p : Pd) (w : Spc) (hx : crossB b.xa b.xb = true) (hy : crossB b.ya b.yb = true) (hs : 0 ≤ w.shrink ∧ w.shrink ≤ 200) :
    F_ref39_Under [.agg (eBd b), .agg (ePd p), .agg (eS w)] = some (B (underB b p w)) := by
  rw [F_ref39_Under_eq]
  have h := rdried_run b w hx hy hs
  unfold underB
  generalize shrN w (minI (b.xb - b.xa) (b.yb - b.ya)) (mean b.cel) = t at *
  generalize shrN w (maxI (b.xb - b.xa) (b.yb - b.ya)) (mean b.cel) = u at *
  simp at h
  simp [h]
  by_cases c : p.thick ≤ t
  · have c' : ¬ t < p.thick := by omega
    simp [c, c']
  · have c' : t < p.thick := by omega
    simp [c, c']
theorem rwidth_run (b : Bd) (hx : crossB b.xa b.xb = true) (hy : crossB b.ya b.yb = true) : F_ref41_Width [.agg (eBd b)] = some (I (maxI (b.xb - b.xa) (b.yb - b.ya))) := by
  rw [F_ref41_Width_eq]
  obtain ⟨e1, j1, j2⟩ := lenS_cross hx
  obtain ⟨e2, j3, j4⟩ := lenS_cross hy
  have l1 := rlen3_run b.xa b.xb j1 j2
  have l2 := rlen3_run b.ya b.yb j3 j4
  rw [e1] at l1
  rw [e2] at l2
  simp [l1, l2, maxI]
theorem rknots_run (b : Bd) (hx : crossB b.xa b.xb = true) (hy : crossB b.ya b.yb = true) : F_ref41_Knots [.agg (eBd b)] = some (I (knotsN b)) := by
  rw [F_ref41_Knots_eq]
  obtain ⟨_, p1⟩ := cross_bnd hx
  obtain ⟨_, p2⟩ := cross_bnd hy
  have hwd := rwidth_run b hx hy
  have hw := rworst_run b.dfs
  obtain ⟨b1, b2⟩ := worstD_bnd b.dfs
  have hq : 0 < maxI (b.xb - b.xa) (b.yb - b.ya) := by unfold maxI; split <;> omega
  unfold knotsN
  generalize maxI (b.xb - b.xa) (b.yb - b.ya) = q at *
  generalize worstD b.dfs = wd at *
  have w1 : IntKind.i64.wrap (wd * 1000) = wd * 1000 := wrap64 (by omega) (by omega)
  have e : (wd * 1000).tdiv q = wd * 1000 / q := Int.tdiv_eq_ediv_of_nonneg (by omega)
  have h1 : 0 ≤ wd * 1000 / q := Int.ediv_nonneg (by omega) (by omega)
  have h2 : wd * 1000 / q ≤ wd * 1000 := Int.ediv_le_self _ (by omega)
  have w2 : IntKind.i64.wrap (wd * 1000 / q) = wd * 1000 / q := wrap64 (by omega) (by omega)
  have c1 : ¬ q < 1 := by omega
  have c2 : ¬ q = 0 := by omega
  have e3 : (if wd * 1000 / q < 1000 then wd * 1000 / q else 1000) = minI (wd * 1000 / q) 1000 := by
    unfold minI
    repeat' split
    all_goals omega
  simp at hwd
  simp [hwd, c1, c2, hw, w1, e, w2, e3]
theorem rstiff_run (b : Bd) (w : Spc) (hx : crossB b.xa b.xb = true) (hy : crossB b.ya b.yb = true) (hm : checkM b.cel = 0) (hl : 0 ≤ w.loss ∧ w.loss ≤ 1000) (hs : 1000 ≤ w.stiff ∧ w.stiff ≤ 30000) :
    F_ref41_Stiffness [.agg (eBd b), .agg (eS w)] = some (I (stiffN b w)) := by
  rw [F_ref41_Stiffness_eq]
  have hk := rknots_run b hx hy
  have kb := knotsN_bnd b hx
  have hmn := rmean_run b.cel
  have mb : 0 ≤ mean b.cel ∧ mean b.cel ≤ 20000 := by
    obtain ⟨h1, h2, _⟩ := checkM_zero.1 hm
    unfold mean
    rw [if_pos hm]
    omega
  unfold stiffN
  simp at hk hmn
  generalize mean b.cel = mn at *
  generalize knotsN b = k at *
  have h1 : w.loss * k ≤ 1000 * 1000 := Int.mul_le_mul hl.2 kb.2 kb.1 (by omega)
  have h2 : 0 ≤ w.loss * k := Int.mul_nonneg hl.1 kb.1
  have w1 : IntKind.i64.wrap (w.loss * k) = w.loss * k := wrap64 (by omega) (by omega)
  have e1 : (w.loss * k).tdiv 1000 = w.loss * k / 1000 := Int.tdiv_eq_ediv_of_nonneg h2
  have w2 : IntKind.i64.wrap (w.loss * k / 1000) = w.loss * k / 1000 := wrap64 (by omega) (by omega)
  generalize hq : w.loss * k / 1000 = q at *
  have q0 : 0 ≤ q ∧ q ≤ 1000 := by omega
  have w3 : IntKind.i64.wrap (1000 - q) = 1000 - q := wrap64 (by omega) (by omega)
  have h3 : w.stiff * (1000 - q) ≤ 30000 * 1000 := Int.mul_le_mul hs.2 (by omega) (by omega) (by omega)
  have h4 : 0 ≤ w.stiff * (1000 - q) := Int.mul_nonneg (by omega) (by omega)
  have w4 : IntKind.i64.wrap (w.stiff * (1000 - q)) = w.stiff * (1000 - q) := wrap64 (by omega) (by omega)
  have e2 : (w.stiff * (1000 - q)).tdiv 1000 = w.stiff * (1000 - q) / 1000 := Int.tdiv_eq_ediv_of_nonneg h4
  have w5 : IntKind.i64.wrap (w.stiff * (1000 - q) / 1000) = w.stiff * (1000 - q) / 1000 := wrap64 (by omega) (by omega)
  generalize hn : w.stiff * (1000 - q) / 1000 = n at *
  have n0 : 0 ≤ n ∧ n ≤ 30000 := by omega
  have w6 : IntKind.i64.wrap (mn - 1200) = mn - 1200 := wrap64 (by omega) (by omega)
  have m0 : 0 ≤ maxI 0 (mn - 1200) ∧ maxI 0 (mn - 1200) ≤ 20000 := by unfold maxI; split <;> omega
  have hm' : maxI 0 (mn - 1200) = if 1200 < mn then mn - 1200 else 0 := by
    unfold maxI
    repeat' split
    all_goals omega
  have w7 : IntKind.i64.wrap (10000 - maxI 0 (mn - 1200)) = 10000 - maxI 0 (mn - 1200) := wrap64 (by omega) (by omega)
  have h5 : n * (10000 - maxI 0 (mn - 1200)) ≤ 30000 * 10000 := by
    rcases (by omega : 0 ≤ 10000 - maxI 0 (mn - 1200) ∨ 10000 - maxI 0 (mn - 1200) ≤ 0) with c | c
    · exact Int.mul_le_mul n0.2 (by omega) c (by omega)
    · have := Int.mul_nonpos_of_nonneg_of_nonpos n0.1 c
      omega
  have h6 : -300000000 ≤ n * (10000 - maxI 0 (mn - 1200)) := by
    have h7 : n * -10000 ≤ n * (10000 - maxI 0 (mn - 1200)) := Int.mul_le_mul_of_nonneg_left (by omega) n0.1
    omega
  have w8 : IntKind.i64.wrap (n * (10000 - maxI 0 (mn - 1200))) = n * (10000 - maxI 0 (mn - 1200)) := wrap64 (by omega) (by omega)
  generalize hr : n * (10000 - maxI 0 (mn - 1200)) = r at *
  have t1 : -300000000 ≤ r.tdiv 10000 ∧ r.tdiv 10000 ≤ 300000000 := by
    rcases (by omega : 0 ≤ r ∨ 0 ≤ -r) with c | c
    · rw [Int.tdiv_eq_ediv_of_nonneg c]
      omega
    · have e := Int.tdiv_eq_ediv_of_nonneg (b := 10000) c
      rw [Int.neg_tdiv] at e
      omega
  have w9 : IntKind.i64.wrap (r.tdiv 10000) = r.tdiv 10000 := wrap64 (by omega) (by omega)
  rw [hm'] at w7 hr
  unfold maxI
  simp [hk, w1, e1, w2, hq, w3, w4, e2, w5, hn, hmn, w6, w7, w8, hr, w9]
theorem rof_loop (F : List (ByteArray × Int)) (hF : F.length ≤ 1000) (vs : List Int) (hv : vs = F.map (fun x => x.2)) (ns : List ByteArray) (hn : ns = F.map (fun x => x.1)) : ∀ (n i : Nat) (r : List (ByteArray × Int)), F.drop i = r → r.length < n →
    L_ref42_Of 11 n ⟨[(0, .any), (1, .any), (2, .any), (3, .any), (5, .any), (6, .any), (7, .any), (8, .any), (9, .any), (10, .own true (vs.map eI)), (11, .own true (ns.map eNm)), (12, .row 12), (13, I i)], [(12, .row 92 2 true ((F.take i).map eFt))]⟩ =
      some (.ex 0, ⟨[(0, .any), (1, .any), (2, .any), (3, .any), (5, .any), (6, .any), (7, .any), (8, .any), (9, .any), (10, .any), (11, .any), (12, .row 12), (13, .any)], [(12, .row 92 2 true (F.map eFt))]⟩) := by
  refine lind F _ ?_ ?_
  · intro n i hr
    rw [L_ref42_Of_succ, R_ref42_Of_eq]
    have e : F.take i = F := List.take_of_length_le (List.drop_eq_nil_iff.1 hr)
    have h : ¬ (i : Int) < ns.length := by
      have := dn hr
      rw [hn, List.length_map]
      exact this
    rw [e]
    simp [h]
  · intro n i x r hr hi ih
    rw [L_ref42_Of_succ, R_ref42_Of_eq]
    have hx : F[i]? = some x := by
      have := congrArg List.head? hr
      simpa [List.head?_drop] using this
    have e : F.take (i + 1) = F.take i ++ [x] := by rw [List.take_add_one, hx]; rfl
    rw [e] at ih
    have h1 : (ns.map eNm)[i]? = some (eNm x.1) := by rw [hn, List.getElem?_map, List.getElem?_map, hx]; rfl
    have h2 : (vs.map eI)[i]? = some (eI x.2) := by rw [hv, List.getElem?_map, List.getElem?_map, hx]; rfl
    have h3 : (i : Int) < ns.length := by rw [hn, List.length_map]; omega
    have h4 : (i : Int) < vs.length := by rw [hv, List.length_map]; omega
    have hw := wrapN (n := i) (by omega)
    have h8 : (F.take i).length = i := by
      rw [List.length_take]
      omega
    have h9 : (i + 1) * 25 ≤ 140737488355328 := by omega
    generalize F.take i = q at *
    simp at ih
    simp [h1, h2, h3, h4, h8, hw, ih]
    exact h9
theorem feats_len' (b : Bd) (p : Pd) (w : Spc) : (feats b p w).length = 18 := rfl
theorem rof_run (b : Bd) (c : List Pd) (w : Spc) (p : Pd) (hB : checkB b c = 0) (hW : checkW w = 0) (hp : c[b.prod.toNat]? = some p) :
    F_ref42_Of [.agg (eBd b), .sl (c.map ePd), .agg (eS w)] = some (.own true ((feats b p w).map eFt)) := by
  rw [F_ref42_Of_eq]
  have hb := rbcheck_run b c
  have hw := rwood_run w
  rw [hB] at hb
  rw [hW] at hw
  obtain ⟨p', hp', h0, hc0, hr⟩ := checkB_zero hB
  rw [hp] at hp'
  cases hp'
  obtain ⟨hx, hdf, hcm, _⟩ := restE_zero hr
  obtain ⟨k1, k2, k3⟩ := box_bnd hx
  obtain ⟨wl, ws, wk⟩ := checkW_zero hW
  have h6 : (c.map ePd)[b.prod.toNat]? = some (ePd p) := by rw [List.getElem?_map, hp]; rfl
  have hl := checkDf_len hdf
  have hg : ∀ d ∈ b.dfs, Rng d := fun d hd => (dfE_rng (checkDf_mem hdf d hd)).1
  have r1 := rlenN_run b k3
  have c1 := fun k => rcount_run b.dfs k (by omega)
  have c2 := fun k => rlargest_run b.dfs k (by omega) hg
  have c3 := rworst_run b.dfs
  have m1 := rcracks_run b.cel w
  have m2 := rmean_run b.cel
  have m3 := rgrad_run b.cel
  have u1 := runder_run b p w k1 k2 wk
  have s1 := rstiff_run b w k1 k2 hcm wl ws
  have ih := rof_loop (feats b p w) (by rw [feats_len']; omega) _ rfl nmsF rfl bigL 0 (feats b p w) rfl (by have := bigL_ge; rw [feats_len']; omega)
  rw [show (feats b p w).map (fun x => x.2) = [p.thick, p.width, lenN b, cntD 1 0 b.dfs, cntD 2 0 b.dfs, cntD 3 0 b.dfs, cntD 4 0 b.dfs, cntD 5 0 b.dfs, cntD 6 0 b.dfs, lrgD 1 0 b.dfs, lrgD 2 0 b.dfs, worstD b.dfs, b.wane, cracks b.cel w, mean b.cel, grad b.cel, (if underB b p w = true then 1 else 0), stiffN b w] from rfl] at ih
  have hn := rnames_run
  generalize feats b p w = l at *
  generalize nmsF = nm at *
  generalize lenN b = v2 at *
  generalize worstD b.dfs = v11 at *
  generalize cracks b.cel w = v13 at *
  generalize mean b.cel = v14 at *
  generalize grad b.cel = v15 at *
  generalize underB b p w = v16 at *
  generalize stiffN b w = v17 at *
  simp at hb hw r1 m1 m2 m3 u1 s1
  cases v16
  · simp at ih
    simp [hb, hw, h0, h6, hn, r1, c1, c2, c3, m1, m2, m3, u1, s1, ih]
  · simp at ih
    simp [hb, hw, h0, h6, hn, r1, c1, c2, c3, m1, m2, m3, u1, s1, ih]
theorem rof_none (b : Bd) (c : List Pd) (w : Spc) (h : ¬ (checkB b c = 0 ∧ checkW w = 0)) : F_ref42_Of [.agg (eBd b), .sl (c.map ePd), .agg (eS w)] = some (.own true []) := by
  rw [F_ref42_Of_eq]
  have hb := rbcheck_run b c
  have hw := rwood_run w
  simp at hb hw
  by_cases h1 : checkB b c = 0
  · have h2 : ¬ checkW w = 0 := fun h2 => h ⟨h1, h2⟩
    simp [hb, hw, h1, h2]
  · simp [hb, h1]
theorem rofO_run (b : Bd) (c : List Pd) (w : Spc) : F_ref42_Of [.agg (eBd b), .sl (c.map ePd), .agg (eS w)] = some (.own true ((featsO b c w).map eFt)) := by
  unfold featsO
  by_cases h : checkB b c = 0 ∧ checkW w = 0
  · rw [if_pos h]
    obtain ⟨p, hp, _⟩ := checkB_zero h.1
    rw [hp]
    exact rof_run b c w p h.1 h.2 hp
  · rw [if_neg h]
    exact rof_none b c w h
end Go.Proofs.YtldekjlihfidlaaGreatDoor
namespace Go.Proofs.YtldekjlihfidlaaGreatDoor.Rl
set_option linter.unusedSimpArgs false
set_option linter.unusedVariables false
open Go Go.Abs
set_option maxHeartbeats 1000000
/-! ### The order of strings -/
abbrev Ls := List UInt8
theorem ls_irrefl (a : Ls) : ¬ a < a := List.lt_irrefl a
theorem ls_trans {a b c : Ls} (h : a < b) (k : b < c) : a < c := List.lt_trans h k
theorem ls_le {a b : Ls} : a ≤ b ↔ ¬ b < a := List.not_lt.symm
theorem ls_tri {a b : Ls} (h : ¬ a < b) (k : ¬ b < a) : a = b := List.le_antisymm (ls_le.2 k) (ls_le.2 h)
theorem ls_lt_of_le {a b : Ls} (h : a ≤ b) (k : a ≠ b) : a < b := by
  by_cases g : a < b
  · exact g
  · exact absurd (ls_tri g (ls_le.1 h)) k
theorem ls_le_lt {a b c : Ls} (h : a ≤ b) (k : b < c) : a < c := by
  by_cases e : a = b
  · rw [e]; exact k
  · exact ls_trans (ls_lt_of_le h e) k
theorem bytesL_inj {a b : ByteArray} (h : bytesL a = bytesL b) : a = b := by
  have := congrArg ofBytesL h
  simpa using this
theorem toList_bytes (a : ByteArray) : a.toList = bytesL a := ByteArray.toList_eq a
theorem gtS_iff (a b : ByteArray) : gtS a b = true ↔ bytesL b < bytesL a := by
  simp only [gtS, decide_eq_true_eq, toList_bytes, Go.Proofs.bytesLess_eq, decide_eq_false_iff_not]
  constructor
  · rintro ⟨h1, h2⟩
    by_cases g : bytesL b < bytesL a
    · exact g
    · exact absurd (bytesL_inj (ls_tri h1 g)) h2
  · intro h
    exact ⟨fun k => ls_irrefl _ (ls_trans h k), fun e => by rw [e] at h; exact ls_irrefl _ h⟩
/-- Ascending, each once. -/
def Asc (l : List ByteArray) : Prop := l.Pairwise (fun a b => bytesL a < bytesL b)
theorem asc_eq : ∀ {a b : List ByteArray}, Asc a → Asc b → (∀ x, x ∈ a ↔ x ∈ b) → a = b
  | [], [], _, _, _ => rfl
  | [], y :: b, _, _, h => by have := (h y).2 (by simp); simp at this
  | x :: a, [], _, _, h => by have := (h x).1 (by simp); simp at this
  | x :: a, y :: b, ha, hb, h => by
    obtain ⟨a1, a2⟩ := List.pairwise_cons.1 ha
    obtain ⟨b1, b2⟩ := List.pairwise_cons.1 hb
    have e : x = y := by
      have hx := (h x).1 (by simp)
      have hy := (h y).2 (by simp)
      rcases List.mem_cons.1 hx with e | hx
      · exact e
      · rcases List.mem_cons.1 hy with e | hy
        · exact e.symm
        · exact absurd (ls_trans (a1 y hy) (b1 x hx)) (ls_irrefl _)
    subst e
    rw [asc_eq a2 b2]
    intro z
    have := h z
    simp only [List.mem_cons] at this
    constructor
    · intro hz
      rcases this.1 (.inr hz) with e | g
      · subst e; exact absurd (a1 z hz) (ls_irrefl _)
      · exact g
    · intro hz
      rcases this.2 (.inr hz) with e | g
      · subst e; exact absurd (b1 z hz) (ls_irrefl _)
      · exact g
theorem hasS_iff (x : ByteArray) : ∀ l : List ByteArray, hasS l x = true ↔ x ∈ l
  | [] => by simp [hasS]
  | s :: r => by
    unfold hasS
    split
    · rename_i e; simp [e]
    · rename_i e; rw [hasS_iff x r]; simp [Ne.symm e]
theorem addL_true (x : ByteArray) : ∀ l : List ByteArray, addL x true l = l
  | [] => rfl
  | s :: r => by simp [addL, addL_true x r]
theorem addL_asc (x : ByteArray) : ∀ l : List ByteArray, Asc l → x ∉ l → Asc (addL x false l) ∧ ∀ z, z ∈ addL x false l ↔ z ∈ l ∨ z = x
  | [], _, _ => by simp [addL, Asc]
  | s :: r, ha, hx => by
    obtain ⟨a1, a2⟩ := List.pairwise_cons.1 ha
    simp only [List.mem_cons, not_or] at hx
    simp only [addL, Bool.false_eq_true, if_false, addL_true]
    split
    · rename_i hg
      rw [gtS_iff] at hg
      refine ⟨List.pairwise_cons.2 ⟨fun z hz => ?_, ha⟩, fun z => by simp [or_comm]⟩
      rcases List.mem_cons.1 hz with rfl | hz
      · exact hg
      · exact ls_trans hg (a1 z hz)
    · rename_i hg
      obtain ⟨i1, i2⟩ := addL_asc x r a2 hx.2
      have hs : bytesL s < bytesL x := by
        by_cases g : bytesL s < bytesL x
        · exact g
        · have : ¬ bytesL x < bytesL s := fun h => hg ((gtS_iff s x).2 h)
          exact absurd (bytesL_inj (ls_tri g this)) (Ne.symm hx.1)
      refine ⟨List.pairwise_cons.2 ⟨fun z hz => ?_, i1⟩, fun z => by simp [i2, or_assoc]⟩
      rcases (i2 z).1 hz with hz | rfl
      · exact a1 z hz
      · exact hs
theorem addS_asc (l : List ByteArray) (x : ByteArray) (h : Asc l) : Asc (addS l x) ∧ ∀ z, z ∈ addS l x ↔ z ∈ l ∨ z = x := by
  unfold addS
  cases hh : hasS l x with
  | true =>
    rw [addL_true]
    refine ⟨h, fun z => ⟨.inl, fun hz => hz.elim id (fun e => ?_)⟩⟩
    rw [e]
    exact (hasS_iff x l).1 hh
  | false => exact addL_asc x l h (fun hx => by rw [(hasS_iff x l).2 hx] at hh; cases hh)
theorem addAll_asc : ∀ (a l : List ByteArray), Asc l → Asc (addAll l a) ∧ ∀ z, z ∈ addAll l a ↔ z ∈ l ∨ z ∈ a
  | [], l, h => ⟨h, fun z => by simp [addAll]⟩
  | x :: a, l, h => by
    obtain ⟨h1, h2⟩ := addS_asc l x h
    obtain ⟨h3, h4⟩ := addAll_asc a (addS l x) h1
    exact ⟨h3, fun z => by simp [addAll, h4, h2, or_assoc]⟩
/-! ### Sorted, of equal ones one -/
open Go.Lib in
theorem compact_up (d : Array Ls) (hd : ∀ i j, i ≤ j → j < d.size → d[i]! ≤ d[j]!) : ∀ m, m ≤ d.size →
    (∀ x, x ∈ compactUpTo d m ↔ ∃ j, j < m ∧ d[j]! = x) ∧ (compactUpTo d m).Pairwise (· < ·)
  | 0, _ => by simp [compactUpTo]
  | m + 1, hm => by
    obtain ⟨h1, h2⟩ := compact_up d hd m (by omega)
    rw [compactUpTo_succ]
    by_cases hk : keeps d m = true
    · rw [if_pos hk]
      refine ⟨fun x => ?_, List.pairwise_append.2 ⟨h2, by simp, fun a ha b hb => ?_⟩⟩
      · rw [List.mem_append, h1]
        constructor
        · rintro (⟨j, hj, e⟩ | e)
          · exact ⟨j, by omega, e⟩
          · simp at e; exact ⟨m, by omega, e.symm⟩
        · rintro ⟨j, hj, e⟩
          by_cases hjm : j = m
          · subst hjm; right; simp [e]
          · exact .inl ⟨j, by omega, e⟩
      · simp at hb
        subst hb
        obtain ⟨j, hj, rfl⟩ := (h1 a).1 ha
        simp only [keeps, decide_eq_true_eq] at hk
        have hm0 : m ≠ 0 := by omega
        have hk := hk.resolve_left hm0
        exact ls_le_lt (hd j (m - 1) (by omega) (by omega)) (ls_lt_of_le (hd (m - 1) m (by omega) (by omega)) (fun e => hk e.symm))
    · rw [if_neg hk, List.append_nil]
      refine ⟨fun x => ?_, h2⟩
      rw [h1]
      constructor
      · rintro ⟨j, hj, e⟩; exact ⟨j, by omega, e⟩
      · rintro ⟨j, hj, e⟩
        by_cases hjm : j = m
        · subst hjm
          simp only [keeps, decide_eq_true_eq, not_or, Decidable.not_not] at hk
          exact ⟨j - 1, by omega, by rw [← hk.2]; exact e⟩
        · exact ⟨j, by omega, e⟩
theorem uses_asc (l : List ByteArray) : Asc (compactS (sortS l)) ∧ ∀ z, z ∈ compactS (sortS l) ↔ z ∈ l := by
  have hsl : (sortS l).map bytesL = (l.map bytesL).mergeSort (fun x y => decide (x ≤ y)) := by
    simp [sortS, Function.comp_def]
  have hp : ((l.map bytesL).mergeSort (fun x y => decide (x ≤ y))).Pairwise (fun a b => decide (a ≤ b) = true) := by
    refine List.pairwise_mergeSort (fun a b c h1 h2 => ?_) (fun a b => ?_) _
    · simp only [decide_eq_true_eq] at *
      exact List.le_trans h1 h2
    · simp only [Bool.or_eq_true, decide_eq_true_eq]
      exact List.le_total a b
  have gb : ∀ (t : List Ls) (j : Nat) (h : j < t.length), t.toArray[j]! = t[j] := fun t j h => by
    rw [getElem!_pos t.toArray j (by simpa using h)]
    exact List.getElem_toArray _
  unfold compactS
  rw [hsl]
  obtain ⟨c1, c2⟩ := compact_up ((l.map bytesL).mergeSort (fun x y => decide (x ≤ y))).toArray (fun i j hij hj => by
    simp only [List.size_toArray] at hj
    by_cases e : i = j
    · subst e; exact ls_le.2 (ls_irrefl _)
    · have := List.pairwise_iff_getElem.1 hp i j (by omega) hj (by omega)
      simp only [decide_eq_true_eq] at this
      rw [gb _ i (by omega), gb _ j hj]
      exact this) _ (Nat.le_refl _)
  have e : Lib.compact ((l.map bytesL).mergeSort (fun x y => decide (x ≤ y))) = Lib.compactUpTo ((l.map bytesL).mergeSort (fun x y => decide (x ≤ y))).toArray ((l.map bytesL).mergeSort (fun x y => decide (x ≤ y))).toArray.size := by
    simp [Lib.compact]
  rw [e]
  refine ⟨?_, fun z => ?_⟩
  · unfold Asc
    rw [List.pairwise_map]
    simpa using c2
  · rw [List.mem_map]
    constructor
    · rintro ⟨b, hb, rfl⟩
      obtain ⟨j, hj, rfl⟩ := (c1 b).1 hb
      simp only [List.size_toArray] at hj
      have hm : ((l.map bytesL).mergeSort (fun x y => decide (x ≤ y)))[j] ∈ l.map bytesL := List.mem_mergeSort.1 (List.getElem_mem hj)
      obtain ⟨s, hs, es⟩ := List.mem_map.1 hm
      rw [gb _ j hj, ← es, ofBytesL_bytesL]
      exact hs
    · intro hz
      have hm : bytesL z ∈ (l.map bytesL).mergeSort (fun x y => decide (x ≤ y)) := List.mem_mergeSort.2 (List.mem_map_of_mem hz)
      obtain ⟨j, hj, ej⟩ := List.mem_iff_getElem.1 hm
      exact ⟨bytesL z, (c1 _).2 ⟨j, by simpa using hj, by rw [gb _ j hj, ej]⟩, by simp⟩
/-- BOTH WAYS GIVE ONE LIST. -/
theorem uses_eq (l : List ByteArray) : compactS (sortS l) = addAll [] l := by
  obtain ⟨a1, a2⟩ := uses_asc l
  obtain ⟨b1, b2⟩ := addAll_asc l [] List.Pairwise.nil
  exact asc_eq a1 b1 (fun z => by rw [a2, b2]; simp)
end Go.Proofs.YtldekjlihfidlaaGreatDoor.Rl
namespace Go.Proofs.YtldekjlihfidlaaGreatDoor.Rl
set_option linter.unusedSimpArgs false
set_option linter.unusedVariables false
open Go Go.Abs
set_option maxRecDepth 100000
theorem rows_of {α : Type} {enc : α → List D} {p : α → Prop} : ∀ (es : List (List D)), (∀ x ∈ es, ∃ a, x = enc a ∧ p a) → ∃ l : List α, es = l.map enc ∧ ∀ a ∈ l, p a
  | [], _ => ⟨[], rfl, by simp⟩
  | x :: r, h => by
    obtain ⟨a, ha, hp⟩ := h x (by simp)
    obtain ⟨l, hl, hq⟩ := rows_of r (fun y hy => h y (by simp [hy]))
    exact ⟨a :: l, by simp [ha, hl], by simpa using ⟨hp, hq⟩⟩
theorem tyEx : ∀ (n : Nat) (cs : List D), TyC Tryz.prog n 46 cs → ∃ e, cs = eX e ∧ Fits e := by
  intro n
  induction n using Nat.strongRecOn with
  | ind n ih =>
    intro cs h
    match n, h with
    | n + 1, h =>
      have h0 := h
      obtain ⟨hl, _⟩ := TyC.struct Tryz.underlying46 h0
      rw [co46] at hl
      match cs, hl with
      | [x0, x1, x2, x3], _ =>
        simp only [TyC, Tryz.underlying46] at h
        simp at h
        obtain ⟨h0, h1, h2, h3⟩ := h
        obtain ⟨a0, e0, b0⟩ := TyC.i64 Tryz.underlying3 h0
        obtain ⟨a1, e1, b1⟩ := TyC.i64 Tryz.underlying3 h1
        obtain ⟨a2, e2, b2⟩ := TyC.string Tryz.underlying9 h2
        match n, h3 with
        | k + 1, h3 =>
          simp only [TyC, Tryz.underlying44] at h3
          obtain ⟨es, e3, b3, hx⟩ := h3
          obtain ⟨l, rfl, hp⟩ := rows_of (enc := eX) es (fun x hx' => ih k (by omega) x (hx x hx'))
          injection e0 with e0; injection e1 with e1; injection e2 with e2; injection e3 with e3
          refine ⟨.mk a0 a1 a2 l, ?_, .mk b0 b1 b2 (by simpa [maxLen, Ex.args] using b3) hp⟩
          rw [eX_eq, e0, e1, e2, e3]
          rfl
theorem tyExV {d : D} (h : TyV Tryz.prog 46 d) : ∃ e, d = .agg (eX e) ∧ Fits e := by
  obtain ⟨n, cs, rfl, hc⟩ := TyV.agg ag46 h
  obtain ⟨e, rfl, hf⟩ := tyEx n cs hc
  exact ⟨e, rfl, hf⟩
/-- A feature that fits into a machine. -/
def FitsF (f : ByteArray × Int) : Prop := f.1.size ≤ 9223372036854775807 ∧ -9223372036854775808 ≤ f.2 ∧ f.2 ≤ 9223372036854775807
theorem tyFeature {n : Nat} {cs : List D} (h : TyC Tryz.prog n 92 cs) : ∃ f : ByteArray × Int, cs = eF f ∧ FitsF f := by
  obtain ⟨hl, m, h⟩ := TyC.struct Tryz.underlying92 h
  rw [co92] at hl
  match cs, hl with
  | [x0, x1], _ =>
    simp at h
    obtain ⟨h0, h1⟩ := h
    obtain ⟨a0, e0, b0⟩ := TyC.string Tryz.underlying9 h0
    obtain ⟨a1, e1, b1⟩ := TyC.i64 Tryz.underlying3 h1
    injection e0 with e0; injection e1 with e1
    exact ⟨(a0, a1), by rw [e0, e1]; rfl, b0, b1⟩
theorem tyFeatures {d : D} (h : TyV Tryz.prog 64 d) : ∃ l : List (ByteArray × Int), d = .sl (l.map eF) ∧ l.length ≤ 9223372036854775807 ∧ ∀ f ∈ l, FitsF f := by
  obtain ⟨n, h⟩ := TyV.cell ag64 h
  obtain ⟨es, m, e, hl, hx⟩ := TyC.slice Tryz.underlying64 h
  obtain ⟨l, rfl, hp⟩ := rows_of es (fun x hx' => tyFeature (hx x hx'))
  injection e with e
  exact ⟨l, e, by simpa using hl, hp⟩
theorem tyRule {n : Nat} {cs : List D} (h : TyC Tryz.prog n 48 cs) : ∃ r : Int × Ex, cs = eR r ∧ (Fits r.2 ∧ -9223372036854775808 ≤ r.1 ∧ r.1 ≤ 9223372036854775807) := by
  obtain ⟨hl, m, h⟩ := TyC.struct Tryz.underlying48 h
  rw [co48] at hl
  match cs, hl with
  | [x0, x1, x2, x3, x4], _ =>
    simp at h
    obtain ⟨h0, h1⟩ := h
    obtain ⟨a0, e0, b0⟩ := TyC.i64 Tryz.underlying3 h0
    obtain ⟨e, he, hf⟩ := tyEx m _ h1
    injection e0 with e0
    exact ⟨(a0, e), by rw [e0, he]; rfl, hf, b0⟩
theorem tyRules {d : D} (h : TyV Tryz.prog 34 d) : ∃ l : List (Int × Ex), d = .sl (l.map eR) ∧ l.length ≤ 9223372036854775807 ∧ ∀ r ∈ l, Fits r.2 ∧ -9223372036854775808 ≤ r.1 ∧ r.1 ≤ 9223372036854775807 := by
  obtain ⟨n, h⟩ := TyV.cell ag34 h
  obtain ⟨es, m, e, hl, hx⟩ := TyC.slice Tryz.underlying34 h
  obtain ⟨l, rfl, hp⟩ := rows_of es (fun x hx' => tyRule (hx x hx'))
  injection e with e
  exact ⟨l, e, by simpa using hl, hp⟩
end Go.Proofs.YtldekjlihfidlaaGreatDoor.Rl
namespace Go.Proofs.YtldekjlihfidlaaGreatDoor
set_option linter.unusedSimpArgs false
set_option linter.unusedVariables false
open Go Go.Abs
set_option maxRecDepth 100000
/-- Rows that each are the cells of something. -/
theorem rows_of {α : Type} {enc : α → List D} {p : α → Prop} : ∀ (es : List (List D)), (∀ x ∈ es, ∃ a, x = enc a ∧ p a) → ∃ l : List α, es = l.map enc ∧ ∀ a ∈ l, p a
  | [], _ => ⟨[], rfl, by simp⟩
  | x :: r, h => by
    obtain ⟨a, ha, hp⟩ := h x (by simp)
    obtain ⟨l, hl, hq⟩ := rows_of r (fun y hy => h y (by simp [hy]))
    exact ⟨a :: l, by simp [ha, hl], by simpa using ⟨hp, hq⟩⟩
theorem tyInt {n : Nat} {cs : List D} (h : TyC Tryz.prog n 3 cs) : ∃ v : Int, cs = eI v ∧ (-9223372036854775808 ≤ v ∧ v ≤ 9223372036854775807) := TyC.i64 Tryz.underlying3 h
theorem tyInts {n : Nat} {cs : List D} (h : TyC Tryz.prog n 53 cs) : ∃ l : List Int, cs = [.sl (l.map eI)] ∧ l.length ≤ 9223372036854775807 ∧ ∀ v ∈ l, -9223372036854775808 ≤ v ∧ v ≤ 9223372036854775807 := by
  obtain ⟨es, m, rfl, hl, hx⟩ := TyC.slice Tryz.underlying53 h
  obtain ⟨l, rfl, hp⟩ := rows_of es (fun x hx' => tyInt (hx x hx'))
  exact ⟨l, rfl, by simpa using hl, hp⟩
theorem tyI {d : D} (h : TyV Tryz.prog 3 d) : ∃ v : Int, d = I v ∧ (-9223372036854775808 ≤ v ∧ v ≤ 9223372036854775807) := by
  obtain ⟨n, h⟩ := TyV.cell ag3 h
  obtain ⟨v, e, hv⟩ := tyInt h
  injection e with e
  exact ⟨v, e, hv⟩
end Go.Proofs.YtldekjlihfidlaaGreatDoor
namespace Go.Proofs.YtldekjlihfidlaaGreatDoor
set_option linter.unusedSimpArgs false
set_option linter.unusedVariables false
open Go Go.Abs
set_option maxHeartbeats 2000000
set_option maxRecDepth 100000
/-- A board, its catalog, its species and a grading table. -/
structure Gg where
  b : Bd
  ps : List Pd
  s : Spc
  rs : List (Int × Rl.Ex)
def eGg (g : Gg) : List D := [S g.b.id, S g.b.log, S g.b.sp, I g.b.prod, I g.b.xa, I g.b.xb, I g.b.ya, I g.b.yb, I g.b.za, I g.b.zb, I g.b.vol, .sl (g.b.dfs.map eDf), I g.b.wane, I g.b.cel.s, I g.b.cel.c, I g.b.cel.st, B g.b.dried, I g.b.grade, .sl (g.ps.map ePd),
  S g.s.name, I g.s.green, I g.s.fast, I g.s.slow, I g.s.safe, I g.s.grad, I g.s.crack, I g.s.temp, I g.s.dep, I g.s.dens, I g.s.stiff, I g.s.loss, I g.s.shrink, .sl (g.rs.map Rl.eR)]
@[simp] theorem eGg_eq (g : Gg) : eGg g = [S g.b.id, S g.b.log, S g.b.sp, I g.b.prod, I g.b.xa, I g.b.xb, I g.b.ya, I g.b.yb, I g.b.za, I g.b.zb, I g.b.vol, .sl (g.b.dfs.map eDf), I g.b.wane, I g.b.cel.s, I g.b.cel.c, I g.b.cel.st, B g.b.dried, I g.b.grade, .sl (g.ps.map ePd),
  S g.s.name, I g.s.green, I g.s.fast, I g.s.slow, I g.s.safe, I g.s.grad, I g.s.crack, I g.s.temp, I g.s.dep, I g.s.dens, I g.s.stiff, I g.s.loss, I g.s.shrink, .sl (g.rs.map Rl.eR)] := rfl
abbrev Rls := List (Int × Rl.Ex)
/-- The first error of the arguments. -/
def chkG (b : Bd) (c : List Pd) (s : Spc) (l : Rls) : Int :=
  if checkPd c = 0 then if checkB b c = 0 then if s.name = b.sp then if checkW s = 0 then Rl.checkRulesM nmsF l else checkW s else 24 else checkB b c else checkPd c
/-- Grade, index and error. -/
def gOf (b : Bd) (c : List Pd) (s : Spc) (l : Rls) : Int × Int × Int := if chkG b c s l = 0 then Rl.gradeL (featsO b c s) 0 l else (0, 0, chkG b c s l)
theorem chkG_zero {b : Bd} {c : List Pd} {s : Spc} {l : Rls} (h : chkG b c s l = 0) : checkPd c = 0 ∧ checkB b c = 0 ∧ s.name = b.sp ∧ checkW s = 0 ∧ Rl.checkRulesM nmsF l = 0 := by
  unfold chkG at h
  repeat' split at h
  all_goals first | omega | exact ⟨by assumption, by assumption, by assumption, by assumption, h⟩
theorem nms_featsO {b : Bd} {c : List Pd} {s : Spc} (h1 : checkB b c = 0) (h2 : checkW s = 0) : Rl.nms (featsO b c s) = nmsF := by
  unfold featsO
  rw [if_pos ⟨h1, h2⟩]
  obtain ⟨p, hp, _⟩ := checkB_zero h1
  rw [hp]
  simp [feats, Rl.nms, nmsF]
theorem featsO_le (b : Bd) (c : List Pd) (s : Spc) : (featsO b c s).length ≤ 18 := by
  unfold featsO
  split
  · split
    · simp [feats]
    · simp
  · simp
theorem gradeM_eq {b : Bd} {c : List Pd} {s : Spc} {l : Rls} (h : chkG b c s l = 0) : Rl.gradeM l (featsO b c s) = Rl.gradeL (featsO b c s) 0 l := by
  obtain ⟨_, h2, _, h4, h5⟩ := chkG_zero h
  unfold Rl.gradeM
  rw [nms_featsO h2 h4, if_pos h5]
theorem eFt_Rl : eFt = Rl.eF := rfl
theorem eNm_Abs : eNm = Go.Abs.eS := rfl
end Go.Proofs.YtldekjlihfidlaaGreatDoor
namespace Go.Proofs.YtldekjlihfidlaaGreatDoor
set_option linter.unusedSimpArgs false
set_option linter.unusedVariables false
open Go Go.Abs
set_option maxHeartbeats 8000000
set_option maxRecDepth 100000
theorem gcheck_run (b : Bd) (c : List Pd) (s : Spc) (l : Rls) (hl : l.length ≤ 1000) (hx : ∀ x ∈ l, Rl.Fits x.2) :
    F_grading_check [.agg (eBd b), .sl (c.map ePd), .agg (eS s), .sl (l.map Rl.eR)] = some (I (chkG b c s l)) := by
  rw [F_grading_check_eq]
  have h1 := checkPd_run c
  have h2 := bcheck_run b c
  have h3 := wood_run s
  have h4 := names_run
  have h5 := Rl.CheckRules_run nmsF (by decide) l hl hx
  rw [← eNm_Abs] at h5
  simp at h1 h2 h3 h4 h5
  unfold chkG
  by_cases g1 : checkPd c = 0
  · by_cases g2 : checkB b c = 0
    · by_cases g3 : s.name = b.sp
      · rw [g3] at h3
        by_cases g4 : checkW s = 0 <;> simp [h1, h2, h3, h4, h5, g1, g2, g3, g4]
      · simp [h1, h2, h3, h4, h5, g1, g2, g3]
    · simp [h1, h2, g1, g2]
  · simp [h1, g1]
theorem rgcheck_run (b : Bd) (c : List Pd) (s : Spc) (l : Rls) (hl : l.length ≤ 1000) (hx : ∀ x ∈ l, Rl.Fits x.2) :
    F_ref45_check [.agg (eBd b), .sl (c.map ePd), .agg (eS s), .sl (l.map Rl.eR)] = some (I (chkG b c s l)) := by
  rw [F_ref45_check_eq]
  have h1 := rcheckPd_run c
  have h2 := rbcheck_run b c
  have h3 := rwood_run s
  have h4 := rnames_run
  have h5 := Rl.rCheckRules_run nmsF (by decide) l hl hx
  rw [← eNm_Abs] at h5
  simp at h1 h2 h3 h4 h5
  unfold chkG
  by_cases g1 : checkPd c = 0
  · by_cases g2 : checkB b c = 0
    · by_cases g3 : s.name = b.sp
      · rw [g3] at h3
        by_cases g4 : checkW s = 0 <;> simp [h1, h2, h3, h4, h5, g1, g2, g3, g4]
      · simp [h1, h2, h3, h4, h5, g1, g2, g3]
    · simp [h1, h2, g1, g2]
  · simp [h1, g1]
end Go.Proofs.YtldekjlihfidlaaGreatDoor
namespace Go.Proofs.YtldekjlihfidlaaGreatDoor
set_option linter.unusedSimpArgs false
set_option linter.unusedVariables false
open Go Go.Abs
set_option maxHeartbeats 4000000
set_option maxRecDepth 100000
/-- A byte in a row. -/
def eB8 (c : UInt8) : List D := [Y c.toNat]
@[simp] theorem eB8_eq (c : UInt8) : eB8 c = [Y c.toNat] := rfl
theorem clamp0 : F_ref01_Clamp [I 0, I 0, I 9] = some (I 0) := by rw [F_ref01_Clamp_eq]; simp
theorem size01_run (n : Int) (h : -9223372036854775808 ≤ n) (h2 : n ≤ 9223372036854775807) : F_ref01_size [I n] = some (.x (.int .u64 n.natAbs)) := by
  rw [F_ref01_size_eq]
  by_cases h0 : n < 0
  · have w1 : IntKind.i64.wrap (n + 1) = n + 1 := wrap64 (by omega) (by omega)
    have w2 : IntKind.i64.wrap (-(n + 1)) = -(n + 1) := wrap64 (by omega) (by omega)
    simp [h0, w1, w2]
    simp [IntKind.wrap, IntKind.bits, IntKind.signed]
    omega
  · simp [h0]
    simp [IntKind.wrap, IntKind.bits, IntKind.signed]
    omega
/-- The digits of a number from its end, at most so many. -/
def digR : Nat → Nat → List UInt8
  | 0, _ => []
  | m + 1, u => if u = 0 then [] else UInt8.ofNat (48 + u % 10) :: digR m (u / 10)
theorem digR_eq : ∀ (m u : Nat), 0 < u → u < 10 ^ m → digR m u = (Lib.decDigits u).reverse
  | 0, u, h0, h1 => by simp at h1; omega
  | m + 1, u, h0, h1 => by
    rw [Nat.pow_succ] at h1
    rw [digR, if_neg (by omega), Lib.decDigits]
    by_cases h : u < 10
    · rw [dif_pos h]
      have e : u / 10 = 0 := by omega
      rw [e]
      cases m <;> simp [digR, Nat.mod_eq_of_lt h]
    · rw [dif_neg h, digR_eq m (u / 10) (by omega) (by omega)]
      simp
theorem digR_len : ∀ (m u : Nat), (digR m u).length ≤ m
  | 0, _ => Nat.le_refl _
  | m + 1, u => by
    have := digR_len m (u / 10)
    unfold digR
    split <;> simp <;> omega
theorem byte_of (u : Nat) : IntKind.u8.wrap (IntKind.u64.wrap (48 + (u : Int).tmod 10)) = ((UInt8.ofNat (48 + u % 10)).toNat : Int) := by
  rw [Int.tmod_eq_emod_of_nonneg (by omega)]
  simp [IntKind.wrap, IntKind.bits, IntKind.signed]
theorem dec_loop (n0 : Int) : ∀ (m n : Nat) (u : Nat) (i : Int) (bs : List UInt8), u < 10 ^ m → u < 18446744073709551616 → m < n → 1 ≤ i → i + m ≤ 1000 → bs.length + m ≤ 1000 →
    L_ref01_Decimal 5 n ⟨[(0, I n0), (1, .any), (4, .any), (5, I 0), (6, .x (.int .u64 u)), (7, .row 7), (8, I i), (9, .any), (10, .any)], [(7, .row 5 1 true (bs.map eB8))]⟩ =
      some (.ex 0, ⟨[(0, I n0), (1, .any), (4, .any), (5, .any), (6, .any), (7, .row 7), (8, .any), (9, .any), (10, .any)], [(7, .row 5 1 true ((bs ++ digR m u).map eB8))]⟩) := by
  intro m
  induction m with
  | zero =>
    intro n u i bs h1 _ hn hi _ _
    match n, hn with
    | n + 1, _ =>
      have hu : u = 0 := by simpa using h1
      subst hu
      have h3 : ¬ i ≤ 0 := by omega
      rw [L_ref01_Decimal_succ, R_ref01_Decimal_eq]
      simp [h3, digR]
  | succ m ih =>
    intro n u i bs h1 h2 hn hi him hb
    match n, hn with
    | n + 1, hn =>
      have h3 : ¬ i ≤ 0 := by omega
      have h4 : ¬ i = 0 := by omega
      rw [L_ref01_Decimal_succ, R_ref01_Decimal_eq]
      by_cases hu : u = 0
      · subst hu
        simp [h3, digR]
      · have h5 : (0 : Int) < u := by omega
        have h5' : 0 < u := by omega
        have w1 : IntKind.i64.wrap (i + 1) = i + 1 := wrap64 (by omega) (by omega)
        rw [Nat.pow_succ] at h1
        have := ih n (u / 10) (i + 1) (bs ++ [UInt8.ofNat (48 + u % 10)]) (by omega) (by omega) (by omega) (by omega) (by omega) (by simp; omega)
        rw [List.map_append, List.map_cons, List.map_nil, eB8_eq, List.append_assoc] at this
        have hl : (bs.length + 1) * 2 ≤ 140737488355328 := by omega
        have w2 : IntKind.u64.wrap ((u : Int) / 10) = (u : Int) / 10 := by
          simp [IntKind.wrap, IntKind.bits, IntKind.signed]
          omega
        simp [h3, h4, h5, h5', w1, w2, byte_of, hl, digR, hu]
        simp at this
        exact this
theorem back_loop (bs : List UInt8) (hb : bs.length ≤ 1000) : ∀ (k n : Nat) (fs : List UInt8), k ≤ bs.length → k < n → fs.length + k ≤ 1000 →
    L_ref01_Decimal 15 n ⟨[(0, .any), (1, .any), (4, .any), (5, .any), (6, .any), (7, .row 7), (8, .any), (9, .row 9), (10, I ((k : Int) - 1))], [(7, .row 5 1 true (bs.map eB8)), (9, .row 5 1 true (fs.map eB8))]⟩ =
      some (.ex 2, ⟨[(0, .any), (1, .any), (4, .any), (5, .any), (6, .any), (7, .any), (8, .any), (9, .row 9), (10, .any)], [(9, .row 5 1 true ((fs ++ (bs.take k).reverse).map eB8))]⟩) := by
  intro k
  induction k with
  | zero =>
    intro n fs _ hn _
    match n, hn with
    | n + 1, _ =>
      rw [L_ref01_Decimal_succ, R_ref01_Decimal_eq]
      simp
  | succ k ih =>
    intro n fs hk hn hf
    match n, hn with
    | n + 1, hn =>
      have e : ((k + 1 : Nat) : Int) - 1 = (k : Int) := by omega
      rw [e, L_ref01_Decimal_succ, R_ref01_Decimal_eq]
      have h1 : (0 : Int) ≤ (k : Int) := by omega
      have h2 : (k : Int) < bs.length := by omega
      have h3 : bs[k]? = some (bs[k]'(by omega)) := List.getElem?_eq_getElem (by omega)
      have w1 : IntKind.i64.wrap ((k : Int) - 1) = (k : Int) - 1 := wrap64 (by omega) (by omega)
      have hl : (fs.length + 1) * 2 ≤ 140737488355328 := by omega
      have := ih n (fs ++ [bs[k]'(by omega)]) (by omega) (by omega) (by simp; omega)
      rw [List.append_assoc, List.singleton_append] at this
      have ht : (bs.take (k + 1)).reverse = (bs[k]'(by omega)) :: (bs.take k).reverse := by
        rw [List.take_add_one, h3]; simp
      rw [ht]
      simp at this
      simp [h1, h2, h3, w1, hl, this]
theorem bytesOf_map : ∀ l : List UInt8, bytesOf (l.map eB8) = some l
  | [] => rfl
  | c :: r => by
    have := bytesOf_map r
    simp [bytesOf] at this ⊢
    simp [this]
theorem decimal_run (n : Int) (h0 : -9223372036854775808 ≤ n) (h1 : n ≤ 9223372036854775807) : F_ref01_Decimal [I n, I 0] = some (S (itoaS n)) := by
  rw [F_ref01_Decimal_eq]
  have hs := size01_run n h0 h1
  have hbig := bigL_ge
  obtain ⟨q, hq⟩ : ∃ q, bigL = q + 1 := ⟨bigL - 1, by omega⟩
  have hu : n.natAbs < 18446744073709551616 := by omega
  have hw1 : IntKind.i64.wrap (0 + 1) = 1 := by decide
  have L1 := dec_loop n 20 q (n.natAbs / 10) 1 [UInt8.ofNat (48 + n.natAbs % 10)] (by omega) (by omega) (by omega) (by omega) (by omega) (by simp)
  have w2 : IntKind.u64.wrap ((n.natAbs : Int) / 10) = (n.natAbs : Int) / 10 := by
    simp [IntKind.wrap, IntKind.bits, IntKind.signed]
    omega
  have hdl := digR_len 20 (n.natAbs / 10)
  have hdig : UInt8.ofNat (48 + n.natAbs % 10) :: digR 20 (n.natAbs / 10) = (Lib.decDigits n.natAbs).reverse := by
    by_cases h : n.natAbs = 0
    · rw [h, Lib.decDigits, dif_pos (by omega)]
      rfl
    · have := digR_eq 21 n.natAbs (by omega) (by omega)
      rw [digR, if_neg h] at this
      exact this
  simp only [List.singleton_append] at L1
  rw [hdig] at L1
  have hlen : (Lib.decDigits n.natAbs).reverse.length ≤ 21 := by rw [← hdig]; simp; omega
  have hit : Lib.itoa n = if n < 0 then 45 :: ((Lib.decDigits n.natAbs).reverse).reverse else ((Lib.decDigits n.natAbs).reverse).reverse := by
    unfold Lib.itoa
    simp only [List.reverse_reverse]
    split
    · rfl
    · congr 1
      omega
  generalize (Lib.decDigits n.natAbs).reverse = ds at *
  have b1 := bytesOf_map ds.reverse
  have b2 := bytesOf_map (45 :: ds.reverse)
  have e2 : (List.take (ds.length + 1) (List.map eB8 ds ++ [[Y 45]])).reverse = (45 :: ds.reverse).map eB8 := by
    rw [List.take_of_length_le (by simp)]
    simp
  rw [List.map_reverse] at b1
  simp at L1
  simp [clamp0, hs, hq]
  rw [L_ref01_Decimal_succ, R_ref01_Decimal_eq]
  simp [w2, byte_of, L1]
  by_cases hn : n < 0
  · have L2 := back_loop (ds ++ [45]) (by simp; omega) (ds.length + 1) (q + 1) [] (by simp) (by omega) (by simp; omega)
    have w3 : IntKind.i64.wrap (ds.length : Int) = ds.length := wrap64 (by omega) (by omega)
    have hl : (ds.length + 1) * 2 ≤ 140737488355328 := by omega
    simp at L2
    rw [e2] at L2
    rw [if_pos hn] at hit
    simp only [hn, if_true, hl, w3, L2]
    generalize (45 :: ds.reverse).map eB8 = es at *
    simp [b2, itoaS, hit]
  · have L2 := back_loop ds (by omega) ds.length (q + 1) [] (by omega) (by omega) (by simp; omega)
    have w3 : IntKind.i64.wrap ((ds.length : Int) - 1) = ds.length - 1 := wrap64 (by omega) (by omega)
    simp at L2
    rw [if_neg hn] at hit
    simp [hn, w3, L2, b1, itoaS, hit]
end Go.Proofs.YtldekjlihfidlaaGreatDoor
namespace Go.Proofs.YtldekjlihfidlaaGreatDoor
set_option linter.unusedSimpArgs false
set_option linter.unusedVariables false
open Go Go.Abs
set_option maxHeartbeats 4000000
set_option maxRecDepth 100000
def betterB (a b : Int) : Bool := !decide (a = 0) && (decide (b = 0) || decide (a < b))
/-- The grade after an inspection, and the error. -/
def againM (g i : Int) : Int × Int := if g < 0 then (0, 26) else if 9 < g then (0, 26) else if i < 0 then (0, 26) else if 9 < i then (0, 26) else if betterB i g = true then (0, 11) else (i, 0)
theorem better_run (a b : Int) : F_grading_better [I a, I b] = some (B (betterB a b)) := by
  rw [F_grading_better_eq]; simp [betterB]
theorem rank_run (a : Int) : F_ref45_rank [I a] = some (I (if a = 0 then 10 else a)) := by
  rw [F_ref45_rank_eq]; simp
theorem again_run (g i : Int) : F_grading_Again [I g, I i] = some (.tup [I (againM g i).1, I (againM g i).2]) := by
  rw [F_grading_Again_eq]
  have h := better_run i g
  unfold againM
  cases hb : betterB i g <;> simp [h, hb] <;> repeat' split
  all_goals first | rfl | omega
theorem ragain_run (g i : Int) : F_ref45_Again [I g, I i] = some (.tup [I (againM g i).1, I (againM g i).2]) := by
  rw [F_ref45_Again_eq]
  have h1 := rank_run i
  have h2 := rank_run g
  unfold againM betterB
  simp [h1, h2]
  repeat' split
  all_goals first | rfl | omega
/-- One more of a grade. -/
def bump (cs : List Int) (g : Int) : List Int := match cs[g.toNat]? with
  | some x => if 0 ≤ g then cs.set g.toNat (x + 1) else cs
  | none => cs
def cntB (cs : List Int) : List Bd → List Int
  | [] => cs
  | b :: r => cntB (bump cs b.grade) r
theorem bump_len (cs : List Int) (g : Int) : (bump cs g).length = cs.length := by
  unfold bump
  repeat' split
  all_goals simp
theorem cntB_len : ∀ (l : List Bd) (cs : List Int), (cntB cs l).length = cs.length
  | [], cs => rfl
  | b :: r, cs => by unfold cntB; rw [cntB_len r, bump_len]
def Bn (k : Int) (cs : List Int) : Prop := ∀ x ∈ cs, 0 ≤ x ∧ x ≤ k
theorem bump_bn {k : Int} {cs : List Int} (g : Int) (h : Bn k cs) : Bn (k + 1) (bump cs g) := by
  intro x hx
  have up : ∀ y ∈ cs, 0 ≤ y ∧ y ≤ k + 1 := fun y hy => by have := h y hy; omega
  unfold bump at hx
  split at hx
  · rename_i y hy
    have hy := h y (List.mem_of_getElem? hy)
    split at hx
    · rcases List.mem_or_eq_of_mem_set hx with hx | rfl
      · exact up x hx
      · omega
    · exact up x hx
  · exact up x hx
theorem counts_loop (l : List Bd) (hl : l.length ≤ 1000) : ∀ (n i : Nat) (r : List Bd), l.drop i = r → r.length < n → ∀ cs : List Int, cs.length = 10 → Bn i cs →
    L_grading_Counts 3 n ⟨[(0, .any), (2, .any), (3, .row 3), (5, .any), (7, .sl (l.map eBd)), (8, I l.length), (9, I i)], [(3, .row 3 1 true (cs.map eI))]⟩ =
      some (.ex 0, ⟨[(0, .any), (2, .any), (3, .row 3), (5, .any), (7, .any), (8, .any), (9, .any)], [(3, .row 3 1 true ((cntB cs r).map eI))]⟩) := by
  refine lind l _ ?_ ?_
  · intro n i hr cs hc hb
    rw [L_grading_Counts_succ, R_grading_Counts_eq]
    simp [dn hr, cntB]
  · intro n i d r hr hi ih cs hc hb
    rw [L_grading_Counts_succ, R_grading_Counts_eq]
    obtain ⟨h1, h3, hr', _⟩ := dc (enc := eBd) hr
    have hw := wrapN (n := i) (by omega)
    have hbn := bump_bn d.grade hb
    have ih' := ih (bump cs d.grade) (by rw [bump_len, hc]) (by rw [Int.natCast_add]; exact hbn)
    unfold cntB
    by_cases g0 : 0 ≤ d.grade
    · by_cases g1 : d.grade ≤ 9
      · have hg : d.grade.toNat < cs.length := by omega
        have hg' : d.grade < cs.length := by omega
        have hx : cs[d.grade.toNat]? = some (cs[d.grade.toNat]'hg) := List.getElem?_eq_getElem hg
        have hxb := hb _ (List.getElem_mem hg)
        have hw2 : IntKind.i64.wrap (cs[d.grade.toNat]'hg + 1) = cs[d.grade.toNat]'hg + 1 := wrap64 (by omega) (by omega)
        have e : bump cs d.grade = cs.set d.grade.toNat (cs[d.grade.toNat]'hg + 1) := by
          unfold bump
          rw [hx]
          simp [g0]
        rw [e] at ih' ⊢
        rw [List.map_set] at ih'
        simp at ih'
        simp [h1, h3, g0, g1, hx, hg', hw, hw2, ih']
      · have e : bump cs d.grade = cs := by
          unfold bump
          rw [List.getElem?_eq_none (by omega)]
        rw [e] at ih' ⊢
        simp at ih'
        simp [h1, h3, g0, g1, hw, ih']
    · have e : bump cs d.grade = cs := by
        unfold bump
        split
        · simp [g0]
        · rfl
      rw [e] at ih' ⊢
      simp at ih'
      simp [h1, h3, g0, hw, ih']
def zero10 : List Int := [0, 0, 0, 0, 0, 0, 0, 0, 0, 0]
theorem zero_bn : Bn ((0 : Nat) : Int) zero10 := by intro x hx; simp [zero10] at hx; omega
theorem counts_run (l : List Bd) (hl : l.length ≤ 1000) : F_grading_Counts [.sl (l.map eBd)] = some (.own true ((cntB zero10 l).map eI)) := by
  rw [F_grading_Counts_eq]
  have ih := counts_loop l hl bigL 0 l rfl (by have := bigL_ge; omega) zero10 rfl zero_bn
  simp [zero10] at ih
  simp [ih]
  rfl
theorem rinner_loop (l : List Bd) (b : Bd) (i : Nat) (hb : l[i]? = some b) (hi : i < l.length) (hl : l.length ≤ 1000) (cs : List Int) (hc : cs.length = 10) (hbn : Bn i cs) : ∀ (k n g : Nat), g + k = 10 → k < n → 
    L_ref45_Counts 6 n ⟨[(0, .sl (l.map eBd)), (2, .any), (3, .row 3), (4, I i), (5, I g)], [(3, .row 3 1 true ((if (g : Int) ≤ b.grade then cs else bump cs b.grade).map eI))]⟩ =
      some (.ex 2, ⟨[(0, .sl (l.map eBd)), (2, .any), (3, .row 3), (4, I i), (5, .any)], [(3, .row 3 1 true ((bump cs b.grade).map eI))]⟩) := by
  intro k
  induction k with
  | zero =>
    intro n g hg hn
    match n, hn with
    | n + 1, _ =>
      obtain rfl : g = 10 := by omega
      rw [L_ref45_Counts_succ, R_ref45_Counts_eq]
      have e : (if ((10 : Nat) : Int) ≤ b.grade then cs else bump cs b.grade) = bump cs b.grade := by
        split
        · unfold bump
          rw [List.getElem?_eq_none (by omega)]
        · rfl
      rw [e]
      simp
  | succ k ih =>
    intro n g hg hn
    match n, hn with
    | n + 1, hn =>
      rw [L_ref45_Counts_succ, R_ref45_Counts_eq]
      have ih' := ih n (g + 1) (by omega) (by omega)
      have hw := wrapN (n := g) (by omega)
      have h1 : (g : Int) ≤ 9 := by omega
      have h2 : (i : Int) < l.length := by omega
      have h3 : (l.map eBd)[i]? = some (eBd b) := by rw [List.getElem?_map, hb]; rfl
      by_cases e : b.grade = g
      · have e1 : (g : Int) ≤ b.grade := by omega
        have e2 : ¬ ((g + 1 : Nat) : Int) ≤ b.grade := by omega
        rw [if_pos e1]
        rw [if_neg e2] at ih'
        have hg2 : g < cs.length := by omega
        have hg' : (g : Int) < cs.length := by omega
        have hx : cs[g]? = some (cs[g]'hg2) := List.getElem?_eq_getElem hg2
        have hxb := hbn _ (List.getElem_mem hg2)
        have hw2 : IntKind.i64.wrap (cs[g]'hg2 + 1) = cs[g]'hg2 + 1 := wrap64 (by omega) (by omega)
        have e3 : bump cs b.grade = cs.set g (cs[g]'hg2 + 1) := by
          unfold bump
          rw [e, Int.toNat_natCast, hx]
          simp
        rw [e3] at ih' ⊢
        rw [List.map_set] at ih' ⊢
        simp at ih'
        simp [h1, h2, h3, hb, e, hx, hg', hw, hw2, ih']
      · have e2 : (if ((g + 1 : Nat) : Int) ≤ b.grade then cs else bump cs b.grade) = (if (g : Int) ≤ b.grade then cs else bump cs b.grade) := by
          by_cases q : (g : Int) ≤ b.grade
          · rw [if_pos q, if_pos (by omega)]
          · rw [if_neg q, if_neg (by omega)]
        rw [e2] at ih'
        generalize (if (g : Int) ≤ b.grade then cs else bump cs b.grade) = c2 at *
        simp at ih'
        simp [h1, h2, h3, hb, e, hw, ih']
theorem rcounts_loop (l : List Bd) (hl : l.length ≤ 1000) : ∀ (n i : Nat) (r : List Bd), l.drop i = r → r.length < n → ∀ cs : List Int, cs.length = 10 → Bn i cs →
    L_ref45_Counts 3 n ⟨[(0, .sl (l.map eBd)), (2, .any), (3, .row 3), (4, I i), (5, .any)], [(3, .row 3 1 true (cs.map eI))]⟩ =
      some (.ex 0, ⟨[(0, .any), (2, .any), (3, .row 3), (4, .any), (5, .any)], [(3, .row 3 1 true ((cntB cs r).map eI))]⟩) := by
  refine lind l _ ?_ ?_
  · intro n i hr cs hc hb
    rw [L_ref45_Counts_succ, R_ref45_Counts_eq]
    simp [dn hr, cntB]
  · intro n i d r hr hi ih cs hc hb
    rw [L_ref45_Counts_succ, R_ref45_Counts_eq]
    obtain ⟨h1, h3, hr', _⟩ := dc (enc := eBd) hr
    have hw := wrapN (n := i) (by omega)
    have hbn := bump_bn d.grade hb
    have ih' := ih (bump cs d.grade) (by rw [bump_len, hc]) (by rw [Int.natCast_add]; exact hbn)
    have hd : l[i]? = some d := by
      have := congrArg (fun t => t[0]?) hr
      simpa using this
    have inn := rinner_loop l d i hd hi hl cs hc hb 10 bigL 0 (by omega) (by have := bigL_ge; omega)
    have e : (if ((0 : Nat) : Int) ≤ d.grade then cs else bump cs d.grade) = cs := by
      split
      · rfl
      · unfold bump
        split
        · rw [if_neg (by omega)]
        · rfl
    rw [e] at inn
    unfold cntB
    generalize bump cs d.grade = c2 at *
    simp at ih' inn
    simp [h1, h3, hw, inn, ih']
theorem rcounts_run (l : List Bd) (hl : l.length ≤ 1000) : F_ref45_Counts [.sl (l.map eBd)] = some (.own true ((cntB zero10 l).map eI)) := by
  rw [F_ref45_Counts_eq]
  have ih := rcounts_loop l hl bigL 0 l rfl (by have := bigL_ge; omega) zero10 rfl zero_bn
  simp [zero10] at ih
  simp [ih]
  rfl
end Go.Proofs.YtldekjlihfidlaaGreatDoor
namespace Go.Proofs.YtldekjlihfidlaaGreatDoor
set_option linter.unusedSimpArgs false
set_option linter.unusedVariables false
open Go Go.Abs
set_option maxHeartbeats 8000000
set_option maxRecDepth 100000
theorem of1_run (f : List (ByteArray × Int)) (l : Rls) (a b e : Int) (h3 : F_rule_Grade [.sl (l.map Rl.eR), .sl (f.map eFt)] = some (.tup [I a, I b, I e])) : E_grading_Of_1 [(1000, .box 64 [.sl (f.map eFt)])] [.sl (l.map Rl.eR), .ptr 1000 0] = some (.tup [I a, I b, I e], [(1000, .box 64 [.sl (f.map eFt)])]) := by
  rw [E_grading_Of_1_eq]
  simp [h3]
theorem gof_run (b : Bd) (c : List Pd) (s : Spc) (l : Rls) (hl : l.length ≤ 1000) (hx : ∀ x ∈ l, Rl.Fits x.2) :
    F_grading_Of [.agg (eBd b), .sl (c.map ePd), .agg (eS s), .sl (l.map Rl.eR)] = some (.tup [I (gOf b c s l).1, I (gOf b c s l).2.1, I (gOf b c s l).2.2]) := by
  rw [F_grading_Of_eq]
  have h1 := gcheck_run b c s l hl hx
  have h2 := ofO_run b c s
  have h3 := Rl.Grade_run (featsO b c s) (by have := featsO_le b c s; omega) l hl hx
  rw [← eFt_Rl] at h3
  have h4 := of1_run _ l _ _ _ h3
  unfold gOf
  by_cases g : chkG b c s l = 0
  · rw [if_pos g, ← gradeM_eq g]
    rw [g] at h1
    generalize featsO b c s = f at *
    generalize Rl.gradeM l f = q at *
    simp at h1 h2
    simp [h1, h2, h4]
  · rw [if_neg g]
    simp at h1
    simp [h1, g]
theorem rgof_run (b : Bd) (c : List Pd) (s : Spc) (l : Rls) (hl : l.length ≤ 1000) (hx : ∀ x ∈ l, Rl.Fits x.2) :
    F_ref45_Of [.agg (eBd b), .sl (c.map ePd), .agg (eS s), .sl (l.map Rl.eR)] = some (.tup [I (gOf b c s l).1, I (gOf b c s l).2.1, I (gOf b c s l).2.2]) := by
  rw [F_ref45_Of_eq]
  have h1 := rgcheck_run b c s l hl hx
  have h2 := rofO_run b c s
  have h3 := Rl.rGrade_run (featsO b c s) (by have := featsO_le b c s; omega) l hl hx
  rw [← eFt_Rl] at h3
  unfold gOf
  by_cases g : chkG b c s l = 0
  · rw [if_pos g, ← gradeM_eq g]
    rw [g] at h1
    generalize featsO b c s = f at *
    generalize Rl.gradeM l f = q at *
    simp at h1 h2
    simp [h1, h2, h3]
  · rw [if_neg g]
    simp at h1
    simp [h1, g]
/-- Where a grade's rule stands. -/
theorem gradeL_idx (f : List (ByteArray × Int)) : ∀ (l : Rls) (i : Nat), ((Rl.gradeL f i l).2.2 = 0 → ((Rl.gradeL f i l).2.1 = -1 ∧ (Rl.gradeL f i l).1 = 0) ∨ ∃ k, k < l.length ∧ (Rl.gradeL f i l).2.1 = ((i + k : Nat) : Int))
  | [], i, _ => .inl ⟨rfl, rfl⟩
  | r :: l, i, h => by
    unfold Rl.gradeL at h ⊢
    split
    · split
      · exact .inr ⟨0, by simp, by simp⟩
      · rename_i h1 h2
        rw [if_pos h1, if_neg h2] at h
        rcases gradeL_idx f l (i + 1) h with h' | ⟨k, hk, e⟩
        · exact .inl h'
        · exact .inr ⟨k + 1, by simp; omega, by rw [e]; congr 1; omega⟩
    · rename_i h1
      rw [if_neg h1] at h
      exact absurd h h1
theorem gOf_idx {b : Bd} {c : List Pd} {s : Spc} {l : Rls} (h : (gOf b c s l).2.2 = 0) : ((gOf b c s l).2.1 = -1 ∧ (gOf b c s l).1 = 0) ∨ ∃ k : Nat, k < l.length ∧ (gOf b c s l).2.1 = (k : Int) := by
  unfold gOf at h ⊢
  by_cases g : chkG b c s l = 0
  · rw [if_pos g] at h ⊢
    rcases gradeL_idx _ l 0 h with h' | ⟨k, hk, e⟩
    · exact .inl h'
    · exact .inr ⟨k, hk, by rw [e]; simp⟩
  · rw [if_neg g] at h
    exact absurd h g
end Go.Proofs.YtldekjlihfidlaaGreatDoor
namespace Go.Proofs.YtldekjlihfidlaaGreatDoor
set_option linter.unusedSimpArgs false
set_option linter.unusedVariables false
open Go Go.Abs
set_option maxHeartbeats 4000000
set_option maxRecDepth 100000
theorem cntD_add (k : Int) : ∀ (l : List Dfc) (n : Int), cntD k n l = n + cntD k 0 l
  | [], n => by simp [cntD]
  | d :: r, n => by
    unfold cntD
    rw [cntD_add k r (n + 1), cntD_add k r n, cntD_add k r (0 + 1)]
    split <;> omega
theorem cntD_bnd (k : Int) : ∀ (l : List Dfc), 0 ≤ cntD k 0 l ∧ cntD k 0 l ≤ l.length
  | [] => by simp [cntD]
  | d :: r => by
    have ih := cntD_bnd k r
    rw [show cntD k 0 (d :: r) = if d.kind = k then cntD k (0 + 1) r else cntD k 0 r from rfl, cntD_add k r (0 + 1), List.length_cons]
    split <;> omega
theorem lrgD_le (k M : Int) : ∀ (l : List Dfc) (n : Int), n ≤ M → (∀ d ∈ l, d.kind = k → sizeD d ≤ M) → lrgD k n l ≤ M
  | [], n, h, _ => h
  | d :: r, n, h, hm => by
    have hr : ∀ x ∈ r, x.kind = k → sizeD x ≤ M := fun y hy => hm y (List.mem_cons_of_mem _ hy)
    have h1 := hm d List.mem_cons_self
    unfold lrgD
    split
    · rename_i c
      have := h1 c
      exact lrgD_le k M r _ (by split <;> omega) hr
    · exact lrgD_le k M r _ h hr
theorem lrgD_bnd (k : Int) : ∀ (l : List Dfc) (n : Int), n ≤ lrgD k n l
  | [], n => Int.le_refl _
  | d :: r, n => by
    have h1 := lrgD_bnd k r n
    have h2 := lrgD_bnd k r (if n < sizeD d then sizeD d else n)
    unfold lrgD
    have h3 : n ≤ (if n < sizeD d then sizeD d else n) := by split <;> omega
    generalize (if n < sizeD d then sizeD d else n) = t at *
    split <;> omega
theorem catE_mem : ∀ (l seen : List Pd), catE seen l = 0 → ∀ p ∈ l, numsE p = 0
  | [], _, _, p, hp => by cases hp
  | x :: r, seen, h, p, hp => by
    unfold catE at h
    split at h
    · split at h
      · cases h
      · split at h
        · rename_i h3
          rcases List.mem_cons.1 hp with rfl | hp
          · exact h3
          · exact catE_mem r _ h p hp
        · rename_i h3; exact absurd h h3
    · cases h
theorem numsE_bnd {p : Pd} (h : numsE p = 0) : (5 ≤ p.thick ∧ p.thick ≤ 300) ∧ 0 ≤ p.width ∧ p.width ≤ 600 := by
  unfold numsE at h
  repeat' split at h
  all_goals first | omega | skip
theorem mean_bnd {x : Cel} (hm : checkM x = 0) : 0 ≤ mean x ∧ mean x ≤ 20000 := by
  obtain ⟨h1, h2, _⟩ := checkM_zero.1 hm
  unfold mean
  rw [if_pos hm]
  omega
theorem cracks_bnd {x : Cel} (w : Spc) (hm : checkM x = 0) : 0 ≤ cracks x w ∧ cracks x w ≤ 1099511627776 := by
  obtain ⟨_, _, h1, h2⟩ := checkM_zero.1 hm
  unfold cracks
  rw [if_pos hm]
  split
  · omega
  · rename_i hw
    have a := Int.ediv_nonneg h1 (show 0 ≤ w.crack by omega)
    have b := Int.ediv_le_self w.crack h1
    omega
theorem stiffN_bnd (b : Bd) (w : Spc) (hx : crossB b.xa b.xb = true) (hm : checkM b.cel = 0) (hl : 0 ≤ w.loss ∧ w.loss ≤ 1000) (hs : 1000 ≤ w.stiff ∧ w.stiff ≤ 30000) : 0 ≤ stiffN b w ∧ stiffN b w ≤ 300000000 := by
  have kb := knotsN_bnd b hx
  have mb := mean_bnd hm
  unfold stiffN
  generalize mean b.cel = mn at *
  generalize knotsN b = k at *
  have h1 : w.loss * k ≤ 1000 * 1000 := Int.mul_le_mul hl.2 kb.2 kb.1 (by omega)
  have h2 : 0 ≤ w.loss * k := Int.mul_nonneg hl.1 kb.1
  generalize hq : w.loss * k / 1000 = q at *
  have q0 : 0 ≤ q ∧ q ≤ 1000 := by omega
  have h3 : w.stiff * (1000 - q) ≤ 30000 * 1000 := Int.mul_le_mul hs.2 (by omega) (by omega) (by omega)
  have h4 : 0 ≤ w.stiff * (1000 - q) := Int.mul_nonneg (by omega) (by omega)
  generalize hn : w.stiff * (1000 - q) / 1000 = n at *
  have n0 : 0 ≤ n ∧ n ≤ 30000 := by omega
  have m0 : 0 ≤ maxI 0 (mn - 1200) ∧ maxI 0 (mn - 1200) ≤ 20000 := by unfold maxI; split <;> omega
  generalize maxI 0 (mn - 1200) = m at *
  by_cases hc : m ≤ 10000
  · have h5 : n * (10000 - m) ≤ 30000 * 10000 := Int.mul_le_mul n0.2 (by omega) (by omega) (by omega)
    have h6 : 0 ≤ n * (10000 - m) := Int.mul_nonneg n0.1 (by omega)
    rw [Int.tdiv_eq_ediv_of_nonneg h6]
    unfold maxI
    split <;> omega
  · have h6 : 0 ≤ n * (m - 10000) := Int.mul_nonneg n0.1 (by omega)
    have e : n * (10000 - m) = -(n * (m - 10000)) := by rw [← Int.mul_neg]; congr 1; omega
    have h7 : (n * (10000 - m)).tdiv 10000 ≤ 0 := by
      rw [e, Int.neg_tdiv, Int.tdiv_eq_ediv_of_nonneg h6]
      omega
    unfold maxI
    split <;> omega
theorem sizeD_bnd {d : Dfc} (h : dfE d = 0) : sizeD d ≤ 1200 := by
  have : (-600 ≤ d.xa ∧ d.xb ≤ 600) ∧ (-600 ≤ d.ya ∧ d.yb ≤ 600) := by
    unfold dfE at h
    repeat' split at h
    all_goals first | omega | skip
  unfold sizeD lenS
  repeat' split
  all_goals omega
theorem featsO_i64 (b : Bd) (c : List Pd) (s : Spc) : ∀ x ∈ featsO b c s, i64 x.2 := by
  intro x hx
  unfold featsO at hx
  split at hx
  · rename_i h
    obtain ⟨p, hp, hp0, hc, hr⟩ := checkB_zero h.1
    rw [hp] at hx
    obtain ⟨r1, r2, r3, r4, r5⟩ := restE_zero hr
    obtain ⟨w1, w2, w3⟩ := checkW_zero h.2
    have hcat : catE [] c = 0 := by
      unfold checkPd at hc
      split at hc
      · omega
      · exact hc
    have hpn := numsE_bnd (catE_mem c [] hcat p (List.mem_of_getElem? hp))
    have hbox : crossB b.xa b.xb = true ∧ alongB b.za b.zb = true := by
      unfold boxB at r1
      unfold crossB alongB
      simp only [decide_eq_true_eq] at r1 ⊢
      omega
    have hlen : 0 ≤ lenN b ∧ lenN b ≤ 20000 := by
      unfold lenN
      rw [if_pos hbox.2]
      have := hbox.2
      unfold alongB at this
      simp only [decide_eq_true_eq] at this
      omega
    have hd := checkDf_mem r2
    have hdl : b.dfs.length ≤ 64 := by
      unfold checkDf at r2
      split at r2
      · omega
      · omega
    have hcnt := fun k => cntD_bnd k b.dfs
    have hlg := fun k => lrgD_bnd k b.dfs 0
    have hll := fun k => lrgD_le k 1200 b.dfs 0 (by omega) (fun d hd' _ => sizeD_bnd (hd d hd'))
    have hw := worstD_bnd b.dfs
    have hm := mean_bnd r3
    have hg := grad_rng b.cel
    have hcr := cracks_bnd s r3
    have hst := stiffN_bnd b s hbox.1 r3 w1 w2
    unfold i64
    simp only [feats, List.mem_cons, List.not_mem_nil, or_false] at hx
    rcases hx with rfl | rfl | rfl | rfl | rfl | rfl | rfl | rfl | rfl | rfl | rfl | rfl | rfl | rfl | rfl | rfl | rfl | rfl
    · exact ⟨by omega, by omega⟩
    · exact ⟨by omega, by omega⟩
    · exact ⟨by omega, by omega⟩
    · have := hcnt 1; exact ⟨by omega, by omega⟩
    · have := hcnt 2; exact ⟨by omega, by omega⟩
    · have := hcnt 3; exact ⟨by omega, by omega⟩
    · have := hcnt 4; exact ⟨by omega, by omega⟩
    · have := hcnt 5; exact ⟨by omega, by omega⟩
    · have := hcnt 6; exact ⟨by omega, by omega⟩
    · have := hlg 1; have := hll 1; exact ⟨by omega, by omega⟩
    · have := hlg 2; have := hll 2; exact ⟨by omega, by omega⟩
    · exact ⟨by omega, by omega⟩
    · exact ⟨by omega, by omega⟩
    · exact ⟨by omega, by omega⟩
    · exact ⟨by omega, by omega⟩
    · exact ⟨by omega, by omega⟩
    · show _ ∧ _
      split <;> exact ⟨by omega, by omega⟩
    · exact ⟨by omega, by omega⟩
  · cases hx
theorem getF_i64 {l : List (ByteArray × Int)} (h : ∀ x ∈ l, i64 x.2) (nm : ByteArray) : i64 (getF nm l).1 := by
  induction l with
  | nil => show i64 0; exact ⟨by decide, by decide⟩
  | cons x r ih =>
    unfold getF
    split
    · exact h x (by simp)
    · exact ih (fun y hy => h y (by simp [hy]))
/-! ### The names, ascending -/
def ascF : List ByteArray := [nChecks, nCracks, nDead, nGradient, nInsects, nKnots, nLength, nMaxdead, nMaxknot, nMoist, nResin, nRot, nStiff, nThick, nUnder, nWane, nWidth, nWorst]
end Go.Proofs.YtldekjlihfidlaaGreatDoor
namespace Go.Proofs.YtldekjlihfidlaaGreatDoor
set_option linter.unusedSimpArgs false
set_option linter.unusedVariables false
open Go Go.Abs
set_option maxHeartbeats 4000000
set_option maxRecDepth 100000
theorem Rl.ment_has {ns : List ByteArray} : ∀ (k : Nat) (e : Rl.Ex), Rl.vis ns k e = 0 → ∀ x ∈ Rl.ment k e, Rl.hasS ns x = true
  | 0, e, h, _, _ => by cases h
  | k + 1, e, h, x, hx => by
    obtain ⟨ha, hn⟩ := Rl.vis_zero h
    obtain ⟨_, _, _, _, h5, _⟩ := Rl.node_zero hn
    simp only [Rl.ment, List.mem_append] at hx
    rcases hx with hx | hx
    · split at hx
      · rename_i h2
        simp at hx
        rw [hx]
        exact h5 h2
      · simp at hx
    · have key : ∀ l : List Rl.Ex, (∀ a ∈ l, Rl.vis ns k a = 0) → x ∈ Rl.mentL (Rl.ment k) l → Rl.hasS ns x = true := by
        intro l
        induction l with
        | nil => intro _ h; simp [Rl.mentL] at h
        | cons a r ih =>
          intro hv h
          simp only [Rl.mentL, List.mem_append] at h
          rcases h with h | h
          · exact Rl.ment_has k a (hv a (by simp)) x h
          · exact ih (fun b hb => hv b (by simp [hb])) h
      exact key _ ha hx
def spB : ByteArray := ⟨#[32]⟩
/-- A feature with its value. -/
def partS (f : List (ByteArray × Int)) (nm : ByteArray) : ByteArray := (nm ++ ⟨#[61]⟩) ++ itoaS (getF nm f).1
/-- The explanation, name by name. -/
def outL (u : List ByteArray) (f : List (ByteArray × Int)) (out : ByteArray) : List ByteArray → ByteArray
  | [] => out
  | x :: r => if Rl.hasS u x = true then outL u f (((((if out = ⟨#[]⟩ then out else out ++ spB) ++ x) ++ ⟨#[61]⟩) ++ itoaS (getF x f).1)) r else outL u f out r
theorem ba_ext {a b : ByteArray} (h : bytesL a = bytesL b) : a = b := Rl.bytesL_inj h
@[simp] theorem bytesL_app (a b : ByteArray) : bytesL (a ++ b) = bytesL a ++ bytesL b := by
  unfold bytesL
  simp
theorem bytesL_join (l : List ByteArray) (sep : ByteArray) : bytesL (joinS l sep) = Lib.join (l.map bytesL) (bytesL sep) := by
  simp [joinS, bytesL]
  rfl
theorem joinTail_snoc (sep : List UInt8) : ∀ (l : List (List UInt8)) (x : List UInt8), Lib.joinTail sep (l ++ [x]) = Lib.joinTail sep l ++ sep ++ x := by
  intro l x
  simp [Lib.joinTail]
theorem joinS_snoc (l : List ByteArray) (x sep : ByteArray) : joinS (l ++ [x]) sep = if l = [] then x else (joinS l sep ++ sep) ++ x := by
  apply ba_ext
  cases l with
  | nil => simp [bytesL_join, Lib.join_one]
  | cons y r =>
    simp only [List.cons_append, reduceCtorEq, if_false, bytesL_app, bytesL_join, List.map_cons, List.map_append, List.map_nil, Lib.join_cons, joinTail_snoc, List.append_assoc]
theorem partS_ne (f : List (ByteArray × Int)) (nm : ByteArray) : bytesL (partS f nm) ≠ [] := by
  simp [partS, bytesL]
theorem joinS_empty (f : List (ByteArray × Int)) (l : List ByteArray) : joinS (l.map (partS f)) spB = ⟨#[]⟩ ↔ l = [] := by
  constructor
  · intro h
    cases l with
    | nil => rfl
    | cons x r =>
      have h2 : bytesL (joinS ((x :: r).map (partS f)) spB) = [] := by rw [h]; rfl
      rw [bytesL_join, List.map_cons, List.map_cons, Lib.join_cons] at h2
      exact absurd (List.append_eq_nil_iff.1 h2).1 (partS_ne f x)
  · rintro rfl; rfl
theorem outL_join (u : List ByteArray) (f : List (ByteArray × Int)) : ∀ (r done : List ByteArray), outL u f (joinS (done.map (partS f)) spB) r = joinS ((done ++ r.filter (fun x => Rl.hasS u x)).map (partS f)) spB
  | [], done => by simp [outL]
  | x :: r, done => by
    unfold outL
    by_cases h : Rl.hasS u x = true
    · rw [if_pos h, List.filter_cons_of_pos (by simpa using h)]
      have ih := outL_join u f r (done ++ [x])
      have e : joinS ((done ++ [x]).map (partS f)) spB = (((if joinS (done.map (partS f)) spB = ⟨#[]⟩ then joinS (done.map (partS f)) spB else joinS (done.map (partS f)) spB ++ spB) ++ x) ++ ⟨#[61]⟩) ++ itoaS (getF x f).1 := by
        rw [List.map_append, List.map_cons, List.map_nil, joinS_snoc]
        by_cases hd : done = []
        · subst hd
          apply ba_ext
          simp [partS, bytesL_join]
          rfl
        · have h1 : ¬ joinS (done.map (partS f)) spB = ⟨#[]⟩ := fun e => hd ((joinS_empty f done).1 e)
          have h2 : ¬ done.map (partS f) = [] := by simpa using hd
          rw [if_neg h1, if_neg h2]
          apply ba_ext
          simp [partS]
      rw [← e, ih, List.append_assoc, List.singleton_append]
    · rw [if_neg h, List.filter_cons_of_neg h]
      exact outL_join u f r done
/-- The names in the first rules. -/
def usedL : Rls → List ByteArray
  | [] => []
  | r :: l => compactS (sortS (Rl.ment 8 r.2)) ++ usedL l
/-- How many rules explain a grade. -/
def upto (l : Rls) (i : Int) : Rls := if 0 ≤ i then l.take (i.toNat + 1) else l
/-- The explanation. -/
def explS (l : Rls) (f : List (ByteArray × Int)) (i : Int) : ByteArray := joinS ((compactS (sortS (usedL (upto l i)))).map (partS f)) spB
theorem asc_ascF : Rl.Asc ascF := by
  unfold Rl.Asc
  decide +kernel
theorem usedL_mem {l : Rls} (h : ∀ x ∈ l, Rl.vis nmsF 8 x.2 = 0) : ∀ z ∈ usedL l, z ∈ ascF := by
  induction l with
  | nil => intro z hz; cases hz
  | cons r l ih =>
    intro z hz
    unfold usedL at hz
    rcases List.mem_append.1 hz with hz | hz
    · have h1 := (Rl.uses_asc _).2 z |>.1 hz
      have h2 := Rl.ment_has 8 r.2 (h r (by simp)) z h1
      have h3 := (Rl.hasS_iff z nmsF).1 h2
      simp only [nmsF, ascF, List.mem_cons, List.not_mem_nil, or_false] at h3 ⊢
      rcases h3 with h | h | h | h | h | h | h | h | h | h | h | h | h | h | h | h | h | h <;> simp [h]
    · exact ih (fun x hx => h x (by simp [hx])) z hz
theorem expl_eq (l : Rls) (f : List (ByteArray × Int)) (i : Int) (h : ∀ x ∈ l, Rl.vis nmsF 8 x.2 = 0) : outL (usedL (upto l i)) f ⟨#[]⟩ ascF = explS l f i := by
  have h1 := outL_join (usedL (upto l i)) f ascF []
  have e0 : joinS (([] : List ByteArray).map (partS f)) spB = ⟨#[]⟩ := rfl
  rw [e0] at h1
  rw [h1, List.nil_append]
  unfold explS
  congr 2
  have ha := Rl.uses_asc (usedL (upto l i))
  refine Rl.asc_eq (List.Pairwise.filter _ asc_ascF) ha.1 (fun x => ?_)
  rw [List.mem_filter, ha.2]
  have hm : ∀ z ∈ usedL (upto l i), z ∈ ascF := by
    refine usedL_mem (fun x hx => h x ?_)
    unfold upto at hx
    split at hx
    · exact List.mem_of_mem_take hx
    · exact hx
  have hh := Rl.hasS_iff x (usedL (upto l i))
  constructor
  · rintro ⟨_, hx⟩; exact hh.1 hx
  · intro hx; exact ⟨hm x hx, hh.2 hx⟩
end Go.Proofs.YtldekjlihfidlaaGreatDoor
namespace Go.Proofs.YtldekjlihfidlaaGreatDoor
open Go Go.Abs
set_option maxRecDepth 100000
set_option linter.unusedSimpArgs false
set_option linter.unusedVariables false
noncomputable section
attribute [simp] Tryz.f17
def z167a : Ann := ⟨[4, 5, 6], [17], [21], [(3, [0, 4, 5, 6])], [(0, [4, 5]), (1, [0, 4, 5, 6])], some [4], [], [], [(64, 0, 92, 2), (30, 11, 82, 7)], []⟩
@[simp] theorem z167a_draws : z167a.draws = [] := rfl
@[simp] theorem z167a_exits : z167a.exits = [(0, [4, 5]), (1, [0, 4, 5, 6])] := rfl
@[simp] theorem z167a_rets : z167a.rets = some [4] := rfl
@[simp] theorem z167a_keep : z167a.keep = [4, 5, 6] := rfl
@[simp] theorem z167a_cond : z167a.cond = [17] := rfl
@[simp] theorem z167a_rows : z167a.rows = [21] := rfl
@[simp] theorem z167a_loops : z167a.loops = [(3, [0, 4, 5, 6])] := rfl
@[simp] theorem z167a_ecalls : z167a.ecalls = [] := rfl
@[simp] theorem z167a_crows : z167a.crows = [(64, 0, 92, 2), (30, 11, 82, 7)] := rfl
@[simp] theorem z167a_tails : z167a.tails = [] := rfl
@[simp] def z167b : PL := []
def z167c : CT := ⟨callOf (z167b ), callOfE noE, gl⟩
@[simp] theorem z167c_p (f : FuncId) (ds : List D) : z167c.p f ds = callOf (z167b ) f ds := Eq.trans rfl rfl
@[simp] theorem z167c_e (f : FuncId) (hs : List (Nat × O)) (ds : List D) : z167c.e f hs ds = callOfE noE f hs ds := Eq.trans rfl rfl
@[simp] theorem z167c_g (g : Nat) : z167c.g g = gl g := Eq.trans rfl rfl
def L_law45_SampleX (i n : Nat) (s : St) : OS := atN Tryz.prog z167c z167a 36 (bodyOf Tryz.f17) i n s
def z167h (n i : Nat) (s : St) : OS := atH Tryz.prog z167c z167a 36 (bodyOf Tryz.f17) n i s
@[simp] theorem z167h_eq (n i : Nat) (s : St) : z167h n i s = L_law45_SampleX i n (headOf (z167a.loops.lookup i) s) := rfl
def R_law45_SampleX (i : Nat) (s : St) : OS := stepL Tryz.prog z167c z167a 36 (bodyOf Tryz.f17) i s
theorem z167k : okLoops (bodyOf Tryz.f17) = true := by kernel_rfl
theorem L_law45_SampleX_zero (i : Nat) (s : St) : L_law45_SampleX i 0 s = none := rfl
theorem L_law45_SampleX_succ (i n : Nat) (s : St) : L_law45_SampleX i (n + 1) s = andThen (R_law45_SampleX i s) (z167h n i) := atN_succ z167k i n s
theorem R_law45_SampleX_eq (i : Nat) (s : St) : R_law45_SampleX i s = runS Tryz.prog z167c (z167h bigL) z167a 36 (loopAt (bodyOf Tryz.f17) i) s := rfl
def F_law45_SampleX (ds : List D) : Option D := runF Tryz.prog z167c z167a 36 (bodyOf Tryz.f17) [.cell 4 30] ds
theorem F_law45_SampleX_eq (ds : List D) : F_law45_SampleX ds = runG Tryz.prog z167c (z167h bigL) z167a 36 (bodyOf Tryz.f17) [.cell 4 30] ds := runG_eq z167k _ ds
theorem C_law45_SampleX (ds : List D) (r : D) (h : F_law45_SampleX ds = some r) : Contract Tryz.prog gl 17 ds r := contract_of mix Tryz.func17 rfl (by kernel_rfl) (by kernel_rfl) (by decide) (call := z167c) ⟨callOf_ok z167b trivial, callOfE_ok noE trivial⟩ h
attribute [simp] Tryz.f7
def z168a : Ann := ⟨[0, 1, 2, 3, 4, 5, 6, 7, 8, 9, 10, 11, 12, 14], [], [], [], [], some [0], [], [], [(64, 0, 92, 2)], []⟩
@[simp] theorem z168a_draws : z168a.draws = [] := rfl
@[simp] theorem z168a_exits : z168a.exits = [] := rfl
@[simp] theorem z168a_rets : z168a.rets = some [0] := rfl
@[simp] theorem z168a_keep : z168a.keep = [0, 1, 2, 3, 4, 5, 6, 7, 8, 9, 10, 11, 12, 14] := rfl
@[simp] theorem z168a_cond : z168a.cond = [] := rfl
@[simp] theorem z168a_rows : z168a.rows = [] := rfl
@[simp] theorem z168a_loops : z168a.loops = [] := rfl
@[simp] theorem z168a_ecalls : z168a.ecalls = [] := rfl
@[simp] theorem z168a_crows : z168a.crows = [(64, 0, 92, 2)] := rfl
@[simp] theorem z168a_tails : z168a.tails = [] := rfl
@[simp] def z168b : PL := [(8, F_grading_Of), (10, F_grading_Explain), (12, F_grading_Again), (17, F_law45_SampleX), (18, F_law45_Plank), (19, F_law45_Pine), (20, F_law45_Table)]
def z168c : CT := ⟨callOf (z168b ), callOfE noE, gl⟩
@[simp] theorem z168c_p (f : FuncId) (ds : List D) : z168c.p f ds = callOf (z168b ) f ds := Eq.trans rfl rfl
@[simp] theorem z168c_e (f : FuncId) (hs : List (Nat × O)) (ds : List D) : z168c.e f hs ds = callOfE noE f hs ds := Eq.trans rfl rfl
@[simp] theorem z168c_g (g : Nat) : z168c.g g = gl g := Eq.trans rfl rfl
def L_law45_awakeX (i n : Nat) (s : St) : OS := atN Tryz.prog z168c z168a 107 (bodyOf Tryz.f7) i n s
def z168h (n i : Nat) (s : St) : OS := atH Tryz.prog z168c z168a 107 (bodyOf Tryz.f7) n i s
@[simp] theorem z168h_eq (n i : Nat) (s : St) : z168h n i s = L_law45_awakeX i n (headOf (z168a.loops.lookup i) s) := rfl
def R_law45_awakeX (i : Nat) (s : St) : OS := stepL Tryz.prog z168c z168a 107 (bodyOf Tryz.f7) i s
theorem z168k : okLoops (bodyOf Tryz.f7) = true := by kernel_rfl
def F_law45_awakeX (ds : List D) : Option D := runF Tryz.prog z168c z168a 107 (bodyOf Tryz.f7) [.tmp 0] ds
theorem F_law45_awakeX_eq (ds : List D) : F_law45_awakeX ds = runG Tryz.prog z168c (z168h bigL) z168a 107 (bodyOf Tryz.f7) [.tmp 0] ds := runG_eq z168k _ ds
theorem C_law45_awakeX (ds : List D) (r : D) (h : F_law45_awakeX ds = some r) : Contract Tryz.prog gl 7 ds r := contract_of mix Tryz.func7 rfl (by kernel_rfl) (by kernel_rfl) (by decide) (call := z168c) ⟨callOf_ok z168b ⟨C_grading_Of, C_grading_Explain, C_grading_Again, C_law45_SampleX, C_law45_Plank, C_law45_Pine, C_law45_Table, trivial⟩, callOfE_ok noE trivial⟩ h
end
end Go.Proofs.YtldekjlihfidlaaGreatDoor
namespace Go.Proofs.YtldekjlihfidlaaGreatDoor
set_option linter.unusedSimpArgs false
set_option linter.unusedVariables false
open Go Go.Abs
set_option maxHeartbeats 8000000
set_option maxRecDepth 100000
theorem ltwo_run (op : Int) (a b : Rl.Ex) : F_law45_two [I op, .agg (Rl.eX a), .agg (Rl.eX b)] = some (.agg [I op, I 0, S ByteArray.empty, .own false [Rl.eX a, Rl.eX b]]) := by
  rw [F_law45_two_eq]
  simp [Rl.eX_eq]
theorem lfeat_run (s : ByteArray) : F_law45_feature [S s] = some (.agg [I 2, I 0, S s, .own true []]) := by
  rw [F_law45_feature_eq]; simp
theorem lnum_run (n : Int) : F_law45_number [I n] = some (.agg [I 1, I n, S ByteArray.empty, .own true []]) := by
  rw [F_law45_number_eq]; simp
/-- The grading table of the examples. -/
def tabE : Rls := [(1, .mk 10 0 ByteArray.empty [.mk 8 0 ByteArray.empty [.mk 2 0 nKnots [], .mk 1 2 ByteArray.empty []], .mk 6 0 ByteArray.empty [.mk 2 0 nWane [], .mk 1 0 ByteArray.empty []]]), (2, .mk 8 0 ByteArray.empty [.mk 2 0 nKnots [], .mk 1 5 ByteArray.empty []]), (3, .mk 8 0 ByteArray.empty [.mk 2 0 nMoist [], .mk 1 1800 ByteArray.empty []])]
theorem table_run : F_law45_Table [] = some (.own false (tabE.map Rl.eR)) := by
  rw [F_law45_Table_eq]; simp [lfeat_run, lnum_run, ltwo_run, Rl.fold0, Rl.fold1, Rl.fold2]
  rfl
def plankE : Pd := ⟨⟨#[112, 108, 97, 110, 107]⟩, 40, 100, 50, 0, [2000], [70]⟩
theorem plank_run : F_law45_Plank [] = some (.own false ([plankE].map ePd)) := by
  rw [F_law45_Plank_eq]; simp [plankE]
def pineE : Spc := ⟨⟨#[112, 105, 110, 101]⟩, 8000, 400, 60, 300, 900, 5000, 900, 300, 500, 12000, 500, 70⟩
theorem pine_run : F_law45_Pine [] = some (.agg (eS pineE)) := by
  rw [F_law45_Pine_eq]; simp [pineE]
def sampE (l : List Dfc) (m : Int) : Bd := ⟨⟨#[66, 48, 48, 48, 48, 48, 49, 77]⟩, ⟨#[76, 48, 48, 48, 48, 48, 49, 87]⟩, ⟨#[112, 105, 110, 101]⟩, 0, 0, 105, 0, 42, 0, 2000, 8820000, l, 0, ⟨m, m, 0⟩, true, 0⟩
/-- A board's cells with a row of its own. -/
def eBo (b : Bd) : List D := [S b.id, S b.log, S b.sp, I b.prod, I b.xa, I b.xb, I b.ya, I b.yb, I b.za, I b.zb, I b.vol, .own true (b.dfs.map eDf), I b.wane, I b.cel.s, I b.cel.c, I b.cel.st, B b.dried, I b.grade]
def knotE (z : Int) : Dfc := ⟨1, 10, 20, 0, 42, z, z + 10⟩
theorem sample1_run (m : Int) : F_law45_SampleX [I 1, I m] = some (.agg (eBo (sampE [knotE 0] m))) := by
  obtain ⟨q, hq⟩ : ∃ q, bigL = q + 7 := ⟨bigL - 7, by have := bigL_ge; omega⟩
  rw [F_law45_SampleX_eq]; simp [hq]
  rw [L_law45_SampleX_succ, R_law45_SampleX_eq]; simp
  rw [L_law45_SampleX_succ, R_law45_SampleX_eq]; simp [eBo, sampE, knotE]
theorem sample6_run (m : Int) : F_law45_SampleX [I 6, I m] = some (.agg (eBo (sampE [knotE 0, knotE 200, knotE 400, knotE 600, knotE 800, knotE 1000] m))) := by
  obtain ⟨q, hq⟩ : ∃ q, bigL = q + 7 := ⟨bigL - 7, by have := bigL_ge; omega⟩
  rw [F_law45_SampleX_eq]; simp [hq]
  rw [L_law45_SampleX_succ, R_law45_SampleX_eq]; simp
  rw [L_law45_SampleX_succ, R_law45_SampleX_eq]; simp
  rw [L_law45_SampleX_succ, R_law45_SampleX_eq]; simp
  rw [L_law45_SampleX_succ, R_law45_SampleX_eq]; simp
  rw [L_law45_SampleX_succ, R_law45_SampleX_eq]; simp
  rw [L_law45_SampleX_succ, R_law45_SampleX_eq]; simp
  rw [L_law45_SampleX_succ, R_law45_SampleX_eq]; simp [eBo, sampE, knotE]
/-! ### The size of an expression -/
def szL (c : Rl.Ex → Int → Int) (most : Int) : List Rl.Ex → Int → Int
  | [], n => n
  | a :: r, n => if n < most then szL c most r (n + c a (most - n)) else n
def szM : Nat → Rl.Ex → Int → Int
  | 0, _, _ => 1
  | k + 1, e, most => szL (szM k) most e.args 1
theorem szL_bnd {c : Rl.Ex → Int → Int} {M : Int} (hc : ∀ a m, 1 ≤ m → 1 ≤ c a m ∧ c a m ≤ m) : ∀ (l : List Rl.Ex) (n : Int), 1 ≤ n → (n ≤ M ∨ n = 1) → n ≤ szL c M l n ∧ (szL c M l n ≤ M ∨ szL c M l n = 1)
  | [], n, h1, h2 => ⟨Int.le_refl _, h2⟩
  | a :: r, n, h1, h2 => by
    unfold szL
    split
    · have := hc a (M - n) (by omega)
      have ih := szL_bnd (M := M) hc r (n + c a (M - n)) (by omega) (.inl (by omega))
      exact ⟨by omega, ih.2⟩
    · exact ⟨Int.le_refl _, h2⟩
theorem szM_bnd : ∀ (k : Nat) (e : Rl.Ex) (m : Int), 1 ≤ szM k e m ∧ (szM k e m ≤ m ∨ szM k e m = 1)
  | 0, e, m => ⟨Int.le_refl _, .inr rfl⟩
  | k + 1, e, m => szL_bnd (fun a q hq => by have := szM_bnd k a q; omega) e.args 1 (by omega) (.inr rfl)
theorem szL_nodes {c : Rl.Ex → Int → Int} {d : Rl.Ex → Nat} {M : Int} (hc : ∀ a m, 1 ≤ m → 1 ≤ c a m ∧ c a m ≤ m) (hd : ∀ a m, 1 ≤ m → c a m < m → (d a : Int) ≤ c a m) : ∀ (l : List Rl.Ex) (n : Int), 1 ≤ n → szL c M l n < M → n + (Rl.nodesL d l : Int) ≤ szL c M l n
  | [], n, h1, h => by simp [Rl.nodesL, szL]
  | a :: r, n, h1, h => by
    unfold szL at h ⊢
    split at h
    · rename_i hn
      rw [if_pos hn]
      have h2 := hc a (M - n) (by omega)
      have ih := szL_nodes hc hd r (n + c a (M - n)) (by omega) h
      have hge := (szL_bnd (M := M) hc r (n + c a (M - n)) (by omega) (.inl (by omega))).1
      have h3 := hd a (M - n) (by omega) (by omega)
      simp only [Rl.nodesL]
      omega
    · omega
theorem szM_nodes : ∀ (j k : Nat) (e : Rl.Ex) (m : Int), m ≤ k → 1 ≤ m → szM k e m < m → (Rl.nodes j e : Int) ≤ szM k e m
  | 0, k, e, m, _, _, h => by have := szM_bnd k e m; simp [Rl.nodes]; omega
  | j + 1, 0, e, m, hk, h1, h => by omega
  | j + 1, k + 1, e, m, hk, h1, h => by
    have hc : ∀ (a : Rl.Ex) (q : Int), 1 ≤ q → 1 ≤ szM k a q ∧ szM k a q ≤ q := fun a q hq => by have := szM_bnd k a q; omega
    have key : ∀ (l : List Rl.Ex) (n : Int), 1 ≤ n → szL (szM k) m l n < m → n + (Rl.nodesL (Rl.nodes j) l : Int) ≤ szL (szM k) m l n := by
      intro l
      induction l with
      | nil => intro n _ _; simp [Rl.nodesL, szL]
      | cons a r ih =>
        intro n h1 h
        unfold szL at h ⊢
        split at h
        · rename_i hn
          rw [if_pos hn]
          have h2 := hc a (m - n) (by omega)
          have ih' := ih (n + szM k a (m - n)) (by omega) h
          have hge := (szL_bnd (M := m) hc r (n + szM k a (m - n)) (by omega) (.inl (by omega))).1
          have h3 := szM_nodes j k a (m - n) (by omega) (by omega) (by omega)
          simp only [Rl.nodesL]
          omega
        · omega
    have := key e.args 1 (by omega) h
    simp only [Rl.nodes]
    show _ ≤ szL (szM k) m e.args 1
    omega
theorem size_loop (sf : List D → Option D) (c : Rl.Ex → Int → Int) (e : Rl.Ex) (most : Int) (hm : most ≤ 1000) (hl : e.args.length ≤ 9223372036854775807) (hc : ∀ a m, 1 ≤ m → 1 ≤ c a m ∧ c a m ≤ m) (hsf : ∀ a ∈ e.args, ∀ m, 1 ≤ m → m < most → sf [.agg (Rl.eX a), I m] = some (I (c a m))) : ∀ (n i : Nat) (r : List Rl.Ex), e.args.drop i = r → r.length < n → ∀ q : Int, 1 ≤ q →
    L_law45_size sf 3 n ⟨[(0, .any), (1, I most), (2, .ptr 2 0), (4, .any), (5, I q), (6, I i)], [(2, .box 46 (Rl.eX e))]⟩ =
      some (.ex 0, ⟨[(0, .any), (1, .any), (2, .any), (4, .any), (5, I (szL c most r q)), (6, .any)], []⟩) := by
  refine lind e.args _ ?_ ?_
  · intro n i hr q hq
    rw [L_law45_size_succ, R_law45_size_eq]
    by_cases g : q < most <;> simp [dn hr, g, szL]
  · intro n i x r hr hi ih q hq
    rw [L_law45_size_succ, R_law45_size_eq]
    obtain ⟨h1, h3, hr', _⟩ := dc (enc := Rl.eX) hr
    have hw := wrapN (n := i) (by omega)
    by_cases g : q < most
    · have h5 := hsf x (by rw [← List.take_append_drop i e.args, hr]; simp) (most - q) (by omega) (by omega)
      have hw3 : IntKind.i64.wrap (most - q) = most - q := wrap64 (by omega) (by omega)
      have hb := hc x (most - q) (by omega)
      have hw4 : IntKind.i64.wrap (q + c x (most - q)) = q + c x (most - q) := wrap64 (by omega) (by omega)
      have ih' := ih (q + c x (most - q)) (by omega)
      simp only [Int.natCast_add, Int.cast_ofNat_Int] at ih'
      simp [h1, h3, hw, g, h5, hw3, hw4, szL, ih']
    · simp [h1, h3, g, szL]
theorem size_run : ∀ (k m : Nat) (e : Rl.Ex) (most : Int), Rl.Fits e → k < m → most ≤ k → most ≤ 1000 → FN_law45_size m [.agg (Rl.eX e), I most] = some (I (szM k e most)) := by
  intro k
  induction k with
  | zero =>
    intro m e most hf hm h0 h1
    obtain ⟨m, rfl⟩ : ∃ q, m = q + 1 := ⟨m - 1, by omega⟩
    rw [FN_law45_size_eq]
    obtain ⟨q, hq⟩ : ∃ q, bigL = q + 1 := ⟨bigL - 1, by have := bigL_ge; omega⟩
    simp [szM, hq]
    rw [L_law45_size_succ, R_law45_size_eq]
    have g : ¬ 1 < most := by omega
    by_cases g2 : (0 : Int) < e.args.length <;> simp [g, g2]
  | succ k ih =>
    intro m e most hf hm h0 h1
    obtain ⟨m, rfl⟩ : ∃ q, m = q + 1 := ⟨m - 1, by omega⟩
    rw [FN_law45_size_eq]
    have hbig := bigL_ge
    obtain ⟨ho, hn, hs, hla, ha⟩ := hf
    have hA := size_loop (FN_law45_size m) (szM k) e most h1 hla (fun a q hq => by have := szM_bnd k a q; omega) (fun a h q h1' h2' => ih m a q (ha a h) (by omega) (by omega) (by omega)) bigL 0 e.args rfl (by omega) 1 (by omega)
    simp at hA
    simp [szM, hA]
theorem sizeF_run (e : Rl.Ex) (hf : Rl.Fits e) : F_law45_size [.agg (Rl.eX e), I 201] = some (I (szM 201 e 201)) := size_run 201 1000 e 201 hf (by omega) (by omega) (by omega)
end Go.Proofs.YtldekjlihfidlaaGreatDoor
namespace Go.Proofs.YtldekjlihfidlaaGreatDoor
set_option linter.unusedSimpArgs false
set_option linter.unusedVariables false
open Go Go.Abs
set_option maxHeartbeats 8000000
set_option maxRecDepth 100000
def shP' : List Pd → Bool
  | [] => true
  | p :: r => if 100 < (p.name.size : Int) then false else if 10 < (p.lens.length : Int) then false else if 10 < (p.prs.length : Int) then false else shP' r
theorem smallP_loop (g : Gg) (hl : g.ps.length ≤ 1000) : ∀ (n i : Nat) (r : List Pd), g.ps.drop i = r → r.length < n →
    L_law45_Small 4 n ⟨[(0, .any), (1, .ptr 1 0), (2, .any), (3, I i), (4, .any), (5, .any)], [(1, .box 36 (eGg g))]⟩ =
      if shP' r = true then some (.ex 0, ⟨[(0, .any), (1, .ptr 1 0), (2, .any), (3, .any), (4, .any), (5, .any)], [(1, .box 36 (eGg g))]⟩) else some (.ret, ⟨[(0, .any), (1, .any), (2, B false), (3, .any), (4, .any), (5, .any)], []⟩) := by
  refine lind g.ps _ ?_ ?_
  · intro n i hr
    rw [L_law45_Small_succ, R_law45_Small_eq]
    simp [dn hr, shP']
  · intro n i x r hr hi ih
    rw [L_law45_Small_succ, R_law45_Small_eq]
    obtain ⟨h1, h3, hr', _⟩ := dc (enc := ePd) hr
    have hw := wrapN (n := i) (by omega)
    simp at ih
    by_cases g1 : 100 < (x.name.size : Int)
    · simp [h1, h3, shP', g1]
    · by_cases g2 : 10 < (x.lens.length : Int)
      · simp [h1, h3, shP', g1, g2]
      · by_cases g3 : 10 < (x.prs.length : Int)
        · simp [h1, h3, shP', g1, g2, g3]
        · simp [h1, h3, shP', g1, g2, g3, hw, ih]
/-- The sizes of all conditions, while they are few. -/
def szR (n : Int) : Rls → Int
  | [] => n
  | r :: l => if n ≤ 200 then szR (n + szM 201 r.2 201) l else n
theorem smallR_loop (g : Gg) (hl : g.rs.length ≤ 1000) (hf : ∀ x ∈ g.rs, Rl.Fits x.2) : ∀ (n i : Nat) (r : Rls), g.rs.drop i = r → r.length < n → ∀ q : Int, 0 ≤ q → q ≤ 1000 →
    L_law45_Small 10 n ⟨[(0, .any), (1, .ptr 1 0), (2, .any), (3, .any), (4, I q), (5, I i)], [(1, .box 36 (eGg g))]⟩ =
      some (.ex 2, ⟨[(0, .any), (1, .any), (2, .any), (3, .any), (4, I (szR q r)), (5, .any)], []⟩) := by
  refine lind g.rs _ ?_ ?_
  · intro n i hr q h0 h1
    rw [L_law45_Small_succ, R_law45_Small_eq]
    by_cases c : q ≤ 200 <;> simp [dn hr, szR, c]
  · intro n i x r hr hi ih q h0 h1
    rw [L_law45_Small_succ, R_law45_Small_eq]
    obtain ⟨h1, h3, hr', _⟩ := dc (enc := Rl.eR) hr
    have hw := wrapN (n := i) (by omega)
    have hs := sizeF_run x.2 (hf x (by rw [← List.take_append_drop i g.rs, hr]; simp))
    by_cases c : q ≤ 200
    · have hb := szM_bnd 201 x.2 201
      have hw2 : IntKind.i64.wrap (q + szM 201 x.2 201) = q + szM 201 x.2 201 := wrap64 (by omega) (by omega)
      have ih' := ih (q + szM 201 x.2 201) (by omega) (by omega)
      simp at ih' hs
      simp [h1, h3, szR, c, hw, hw2, hs, ih']
    · simp [h1, h3, szR, c]
/-- Whether an input is small. -/
def smallG (g : Gg) : Bool := if 70 < (g.b.dfs.length : Int) then false else if 20 < (g.ps.length : Int) then false else if 40 < (g.rs.length : Int) then false else
  if 100 < IntKind.i64.wrap (IntKind.i64.wrap (IntKind.i64.wrap ((g.b.id.size : Int) + g.b.log.size) + g.b.sp.size) + g.s.name.size) then false else if shP' g.ps = true then decide (szR 0 g.rs ≤ 200) else false
theorem lsmall_run (g : Gg) (hf : ∀ x ∈ g.rs, Rl.Fits x.2) : F_law45_Small [.agg (eGg g)] = some (B (smallG g)) := by
  rw [F_law45_Small_eq]
  unfold smallG
  by_cases c1 : 70 < (g.b.dfs.length : Int)
  · simp [c1]
  by_cases c2 : 20 < (g.ps.length : Int)
  · simp [c1, c2]
  by_cases c3 : 40 < (g.rs.length : Int)
  · simp [c1, c2, c3]
  have i1 := smallP_loop g (by omega) bigL 0 g.ps rfl (by have := bigL_ge; omega)
  have i2 := smallR_loop g (by omega) hf bigL 0 g.rs rfl (by have := bigL_ge; omega) 0 (by omega) (by omega)
  simp at i1 i2
  by_cases c4 : 100 < IntKind.i64.wrap (IntKind.i64.wrap (IntKind.i64.wrap ((g.b.id.size : Int) + g.b.log.size) + g.b.sp.size) + g.s.name.size)
  · simp [c1, c2, c3, c4]
  · cases c5 : shP' g.ps
    · simp [c5] at i1
      simp [c1, c2, c3, c4, i1]
    · simp [c5] at i1
      simp [c1, c2, c3, c4, i1, i2]
theorem szR_ge : ∀ (l : Rls) (n : Int), n ≤ szR n l
  | [], n => Int.le_refl _
  | r :: l, n => by
    unfold szR
    split
    · have := szM_bnd 201 r.2 201
      have := szR_ge l (n + szM 201 r.2 201)
      omega
    · exact Int.le_refl _
/-- The names in all conditions are few. -/
def nodesR : Rls → Nat
  | [] => 0
  | r :: l => Rl.nodes 8 r.2 + nodesR l
theorem szR_nodes : ∀ (l : Rls) (n : Int), 0 ≤ n → szR n l ≤ 200 → n + (nodesR l : Int) ≤ szR n l
  | [], n, _, h => by simp [nodesR, szR]
  | r :: l, n, h0, h => by
    unfold szR at h ⊢
    split at h
    · rename_i c
      rw [if_pos c]
      have hb := szM_bnd 201 r.2 201
      have ih := szR_nodes l _ (by omega) h
      have hge := szR_ge l (n + szM 201 r.2 201)
      have h3 := szM_nodes 8 201 r.2 201 (by omega) (by omega) (by omega)
      simp only [nodesR]
      omega
    · omega
theorem nodesR_mem {l : Rls} {x : Int × Rl.Ex} (h : x ∈ l) : Rl.nodes 8 x.2 ≤ nodesR l := by
  induction l with
  | nil => cases h
  | cons r l ih =>
    simp only [nodesR]
    rcases List.mem_cons.1 h with rfl | h
    · omega
    · have := ih h; omega
structure SmallP (g : Gg) : Prop where
  d : g.b.dfs.length ≤ 70
  ps : g.ps.length ≤ 20
  rs : g.rs.length ≤ 40
  nd : nodesR g.rs ≤ 200
theorem small_of {g : Gg} (h : smallG g = true) : SmallP g := by
  unfold smallG at h
  repeat' split at h
  all_goals first | cases h | skip
  have := of_decide_eq_true h
  have h2 := szR_nodes g.rs 0 (by omega) this
  exact ⟨by omega, by omega, by omega, by omega⟩
end Go.Proofs.YtldekjlihfidlaaGreatDoor
namespace Go.Proofs.YtldekjlihfidlaaGreatDoor
set_option linter.unusedSimpArgs false
set_option linter.unusedVariables false
open Go Go.Abs
set_option maxHeartbeats 8000000
set_option maxRecDepth 100000
theorem compact_le (l : List ByteArray) : (compactS (sortS l)).length ≤ l.length := by
  have := compactS_length (sortS l)
  rw [sortS_length] at this
  exact this
theorem usedL_len : ∀ l : Rls, (usedL l).length ≤ nodesR l
  | [] => Nat.le_refl _
  | r :: l => by
    have h1 := usedL_len l
    have h2 := compact_le (Rl.ment 8 r.2)
    have h3 := Rl.ment_le 8 r.2
    simp only [usedL, nodesR, List.length_append]
    omega
theorem expl_loop (b : Bd) (c : List Pd) (s : Spc) (l : Rls) (hl : l.length ≤ 1000) (hx : ∀ x ∈ l, Rl.Fits x.2) (hn : ∀ x ∈ l, Rl.nodes 8 x.2 ≤ 1000) : ∀ (n i : Nat) (r : Rls), l.drop i = r → r.length < n → ∀ acc : List ByteArray, acc.length + nodesR r ≤ 1000000 →
    L_grading_Explain 8 n ⟨[(0, .any), (1, .sl (c.map ePd)), (2, .any), (3, .any), (4, .ptr 4 0), (6, .ptr 6 0), (8, .any), (9, .any), (11, .any), (12, .any), (13, .row 13), (15, .any), (16, .any), (17, .any), (19, .any), (20, .any), (40, .sl (l.map Rl.eR)), (41, I l.length), (42, I i), (59, .any), (60, .any), (61, .any)], [(4, .box 30 (eBd b)), (6, .box 33 (eS s)), (13, .row 9 1 true (acc.map Go.Abs.eS))]⟩ =
      some (.ex 0, ⟨[(0, .any), (1, .sl (c.map ePd)), (2, .any), (3, .any), (4, .ptr 4 0), (6, .ptr 6 0), (8, .any), (9, .any), (11, .any), (12, .any), (13, .row 13), (15, .any), (16, .any), (17, .any), (19, .any), (20, .any), (40, .any), (41, .any), (42, .any), (59, .any), (60, .any), (61, .any)], [(4, .box 30 (eBd b)), (6, .box 33 (eS s)), (13, .row 9 1 true ((acc ++ usedL r).map Go.Abs.eS))]⟩) := by
  refine lind l _ ?_ ?_
  · intro n i hr acc ha
    rw [L_grading_Explain_succ, R_grading_Explain_eq]
    simp [dn hr, usedL]
  · intro n i x r hr hi ih acc ha
    rw [L_grading_Explain_succ, R_grading_Explain_eq]
    obtain ⟨h1, h3, hr', _⟩ := dc (enc := Rl.eR) hr
    have hw := wrapN (n := i) (by omega)
    have hxm : x ∈ l := by rw [← List.take_append_drop i l, hr]; simp
    have hu := Rl.Uses_run x.2 (hx x hxm) (by have := hn x hxm; omega)
    have hc := compact_le (Rl.ment 8 x.2)
    have hm := Rl.ment_le 8 x.2
    have hcount : (compactS (sortS (Rl.ment 8 x.2))).length ≤ Rl.nodes 8 x.2 := by omega
    simp only [nodesR] at ha
    unfold usedL
    have ih' := ih (acc ++ compactS (sortS (Rl.ment 8 x.2))) (by simp; omega)
    generalize compactS (sortS (Rl.ment 8 x.2)) = q at *
    rw [List.append_assoc] at ih'
    have hq : (acc.length + q.length) * 17 ≤ 140737488355328 := by omega
    simp at ih' hu
    simp [h1, h3, hu, hw, hq, ih']
theorem dec_len (u : Nat) (h : u < 10 ^ 20) : (Lib.decDigits u).length ≤ 20 := by
  by_cases h0 : u = 0
  · subst h0
    rw [Lib.decDigits, dif_pos (by omega)]
    simp
  · have e := digR_eq 20 u (by omega) h
    have := digR_len 20 u
    rw [e] at this
    simpa using this
theorem itoa_len {n : Int} (h : i64 n) : (itoaS n).size ≤ 21 := by
  obtain ⟨h0, h1⟩ := h
  show (itoaS n).data.size ≤ 21
  unfold itoaS Lib.itoa
  have a := dec_len n.natAbs (by omega)
  have b := dec_len n.toNat (by omega)
  simp only [List.size_toArray]
  split
  · simp; omega
  · omega
theorem size_app (a b : ByteArray) : (a ++ b).size = a.size + b.size := by simp
theorem partS_len {f : List (ByteArray × Int)} (hf : ∀ x ∈ f, i64 x.2) {nm : ByteArray} (hn : nm.size ≤ 100) : (partS f nm).size ≤ 200 := by
  have h1 := itoa_len (getF_i64 hf nm)
  unfold partS
  rw [size_app, size_app]
  have : (⟨#[61]⟩ : ByteArray).size = 1 := rfl
  omega
theorem parts_loop (f : List (ByteArray × Int)) (hf : ∀ x ∈ f, i64 x.2) (hfl : f.length ≤ 1000) (ns : List ByteArray) (hl : ns.length ≤ 1000) (hn : ∀ x ∈ ns, x.size ≤ 100) : ∀ (n i : Nat) (r : List ByteArray), ns.drop i = r → r.length < n → ∀ (o : Bool) (ps : List ByteArray), ps.length + r.length ≤ 1000 →
    L_grading_Explain 16 n ⟨[(0, .any), (1, .any), (2, .any), (3, .any), (4, .any), (6, .any), (8, .any), (9, .any), (11, .any), (12, .any), (13, .any), (15, .any), (16, .own true (f.map eFt)), (17, .row 17), (19, .any), (20, .any), (40, .any), (41, .any), (42, .any), (59, .row 59), (60, I ns.length), (61, I i)], if o = true then [(17, .row 9 1 true (ps.map Go.Abs.eS)), (59, .row 9 1 true (ns.map Go.Abs.eS))] else [(59, .row 9 1 true (ns.map Go.Abs.eS)), (17, .row 9 1 true (ps.map Go.Abs.eS))]⟩ =
      some (.ex 2, ⟨[(0, .any), (1, .any), (2, .any), (3, .any), (4, .any), (6, .any), (8, .any), (9, .any), (11, .any), (12, .any), (13, .any), (15, .any), (16, .any), (17, .row 17), (19, .any), (20, .any), (40, .any), (41, .any), (42, .any), (59, .any), (60, .any), (61, .any)], [(17, .row 9 1 true ((ps ++ r.map (partS f)).map Go.Abs.eS))]⟩) := by
  refine lind ns _ ?_ ?_
  · intro n i hr o ps hp
    rw [L_grading_Explain_succ, R_grading_Explain_eq]
    cases o <;> simp [dn hr]
  · intro n i x r hr hi ih o ps hp
    rw [L_grading_Explain_succ, R_grading_Explain_eq]
    obtain ⟨h1, h3, hr', _⟩ := dc (enc := Go.Abs.eS) hr
    have hw := wrapN (n := i) (by omega)
    have hxs := hn x (by rw [← List.take_append_drop i ns, hr]; simp)
    have hg := get_run f x hfl
    have hb := getF_i64 hf x
    have hit := F_itoa_eq (getF x f).1 hb.1 hb.2
    have hil := itoa_len hb
    have e1 : (⟨#[61]⟩ : ByteArray).size = 1 := rfl
    have z1 : ¬ (9223372036854775807 : Int) < (x.size : Int) + (⟨#[61]⟩ : ByteArray).size := by rw [e1]; omega
    have z2 : ¬ (9223372036854775807 : Int) < (x.size : Int) + (⟨#[61]⟩ : ByteArray).size + (itoaS (getF x f).1).size := by rw [e1]; omega
    simp only [List.length_cons] at hp
    have ih' := ih false (ps ++ [partS f x]) (by simp; omega)
    rw [List.append_assoc] at ih'
    have hq : (ps.length + 1) * 17 ≤ 140737488355328 := by omega
    simp [partS] at ih' hg
    cases o <;> simp [h1, h3, hg, hit, hw, z1, z2, hq, ih', partS]
theorem joinTail_len (sep : List UInt8) (k : Nat) : ∀ l : List (List UInt8), (∀ x ∈ l, x.length ≤ k) → (Lib.joinTail sep l).length ≤ l.length * (k + sep.length)
  | [], _ => by simp [Lib.joinTail]
  | x :: r, h => by
    have ih := joinTail_len sep k r (fun y hy => h y (by simp [hy]))
    have hx := h x (by simp)
    have e : Lib.joinTail sep (x :: r) = (sep ++ x) ++ Lib.joinTail sep r := by simp [Lib.joinTail]
    rw [e, List.length_cons, Nat.succ_mul]
    simp only [List.length_append]
    omega
theorem len_bytesL (a : ByteArray) : (bytesL a).length = a.size := by
  unfold bytesL
  rw [Array.length_toList]
  rfl
theorem joinS_len (l : List ByteArray) (k : Nat) (h : ∀ x ∈ l, x.size ≤ k) : (joinS l spB).size ≤ l.length * (k + 1) := by
  have e : (joinS l spB).size = (Lib.join (l.map bytesL) (bytesL spB)).length := by
    rw [← bytesL_join, len_bytesL]
  rw [e]
  cases l with
  | nil => simp [Lib.join_nil]
  | cons x r =>
    rw [List.map_cons, Lib.join_cons]
    have hx : (bytesL x).length ≤ k := by
      rw [len_bytesL]
      exact h x (by simp)
    have ht := joinTail_len (bytesL spB) k (r.map bytesL) (fun y hy => by
      obtain ⟨z, hz, rfl⟩ := List.mem_map.1 hy
      rw [len_bytesL]
      exact h z (by simp [hz]))
    have e1 : (bytesL spB).length = 1 := rfl
    rw [e1, List.length_map] at ht
    rw [List.length_append, List.length_cons, Nat.succ_mul]
    omega
theorem ascF_size : ∀ x ∈ ascF, x.size ≤ 100 := by
  intro x hx
  simp only [ascF, List.mem_cons, List.not_mem_nil, or_false] at hx
  rcases hx with rfl | rfl | rfl | rfl | rfl | rfl | rfl | rfl | rfl | rfl | rfl | rfl | rfl | rfl | rfl | rfl | rfl | rfl <;> decide
theorem chk_vis {b : Bd} {c : List Pd} {s : Spc} {l : Rls} (h : chkG b c s l = 0) : ∀ x ∈ l, Rl.vis nmsF 8 x.2 = 0 := by
  obtain ⟨_, _, _, _, h5⟩ := chkG_zero h
  unfold Rl.checkRulesM at h5
  split at h5
  · cases h5
  · exact fun x hx => (Rl.rules_vis h5 x hx).1
theorem nodesR_take (l : Rls) (k : Nat) : nodesR (l.take k) ≤ nodesR l := by
  induction l generalizing k with
  | nil => simp
  | cons r l ih =>
    cases k with
    | zero => simp [nodesR]
    | succ k =>
      have := ih k
      simp only [List.take_succ_cons, nodesR]
      omega
theorem gOf_zero {b : Bd} {c : List Pd} {s : Spc} {l : Rls} (h : (gOf b c s l).2.2 = 0) : chkG b c s l = 0 := by
  unfold gOf at h
  split at h
  · assumption
  · exact h
/-- The names that explain a grade are features' names, each once. -/
theorem names_of {l : Rls} (hv : ∀ x ∈ l, Rl.vis nmsF 8 x.2 = 0) : (∀ x ∈ compactS (sortS (usedL l)), x ∈ ascF) ∧ (∀ x ∈ compactS (sortS (usedL l)), x.size ≤ 100) := by
  have h1 : ∀ x ∈ compactS (sortS (usedL l)), x ∈ ascF := fun x hx => usedL_mem hv x (((Rl.uses_asc _).2 x).1 hx)
  exact ⟨h1, fun x hx => ascF_size x (h1 x hx)⟩
theorem explain_run (b : Bd) (c : List Pd) (s : Spc) (l : Rls) (hl : l.length ≤ 1000) (hx : ∀ x ∈ l, Rl.Fits x.2) (hn : nodesR l ≤ 1000) :
    F_grading_Explain [.agg (eBd b), .sl (c.map ePd), .agg (eS s), .sl (l.map Rl.eR)] = some (.tup [S (if (gOf b c s l).2.2 = 0 then explS l (featsO b c s) (gOf b c s l).2.1 else ⟨#[]⟩), I (gOf b c s l).2.2]) := by
  rw [F_grading_Explain_eq]
  have h1 := gof_run b c s l hl hx
  by_cases g : (gOf b c s l).2.2 = 0
  · rw [if_pos g]
    have hidx := gOf_idx g
    have hv := chk_vis (gOf_zero g)
    have h2 := ofO_run b c s
    have hf := featsO_i64 b c s
    have hfl := featsO_le b c s
    unfold explS
    generalize gOf b c s l = t at *
    obtain ⟨t1, t2, t3⟩ := t
    simp only at g hidx
    subst g
    have hq : (upto l t2).length ≤ 1000 ∧ (∀ x ∈ upto l t2, x ∈ l) ∧ nodesR (upto l t2) ≤ 1000 := by
      unfold upto
      split
      · exact ⟨by simp; omega, fun x hx => List.mem_of_mem_take hx, Nat.le_trans (nodesR_take l _) hn⟩
      · exact ⟨hl, fun x hx => hx, hn⟩
    obtain ⟨q1, q2, q3⟩ := hq
    have hL := expl_loop b c s (upto l t2) q1 (fun x hx' => hx x (q2 x hx')) (fun x hx' => Nat.le_trans (nodesR_mem hx') q3) bigL 0 (upto l t2) rfl (by have := bigL_ge; omega) [] (by simp; omega)
    have hnm := names_of (fun x hx' => hv x (q2 x hx'))
    have hul := usedL_len (upto l t2)
    have hcl := compact_le (usedL (upto l t2))
    have e1 := E_sortS_eq 9 true (usedL (upto l t2)) (by omega)
    have e2 := E_compactS_eq 9 true (sortS (usedL (upto l t2))) (by rw [sortS_length]; omega)
    generalize usedL (upto l t2) = u at *
    have hP := parts_loop (featsO b c s) hf (by omega) (compactS (sortS u)) (by omega) hnm.2 bigL 0 (compactS (sortS u)) rfl (by have := bigL_ge; omega) true [] (by simp; omega)
    have hj := F_join_eq ((compactS (sortS u)).map (partS (featsO b c s))) spB (by simp; omega) (by
      have := joinS_len ((compactS (sortS u)).map (partS (featsO b c s))) 200 (fun x hx' => by
        obtain ⟨z, hz, rfl⟩ := List.mem_map.1 hx'
        exact partS_len hf (hnm.2 z hz))
      rw [List.length_map] at this
      omega)
    generalize compactS (sortS u) = ns at *
    generalize featsO b c s = f at *
    rw [List.nil_append] at hL hP
    generalize ns.map (partS f) = ps at *
    simp only [spB] at hj ⊢
    rcases hidx with ⟨rfl, rfl⟩ | ⟨k, hk, rfl⟩
    · have eu : upto l (-1) = l := rfl
      rw [eu] at hL
      simp at h1 h2 hL hP hj
      simp [h1, h2, hL, e1, e2, hP, hj]
    · have eu : upto l (k : Int) = l.take (k + 1) := by simp [upto]
      rw [eu] at hL
      have hw := wrapN (n := k) (by omega)
      have k0 : (0 : Int) ≤ (k : Int) := by omega
      have k1 : (k : Int) + 1 ≤ l.length := by omega
      have k2 : (0 : Int) ≤ (k : Int) + 1 := by omega
      have k3 : ((l.take (k + 1)).length : Int) = (k : Int) + 1 := by rw [List.length_take]; omega
      have k4 : ((k : Int) + 1).toNat = k + 1 := by omega
      rw [k3] at hL
      have k5 : min (k + 1) l.length = k + 1 := by omega
      simp at h1 h2 hL hP hj
      simp [h1, h2, hw, k0, k1, k2, k4, k5, hL, e1, e2, hP, hj]
  · rw [if_neg g]
    simp at h1
    simp [h1, g]
end Go.Proofs.YtldekjlihfidlaaGreatDoor
namespace Go.Proofs.YtldekjlihfidlaaGreatDoor
set_option linter.unusedSimpArgs false
set_option linter.unusedVariables false
open Go Go.Abs
set_option maxHeartbeats 8000000
set_option maxRecDepth 100000
theorem rhas_loop (l : List ByteArray) (x : ByteArray) (hl : l.length ≤ 1000000) : ∀ (n i : Nat) (r : List ByteArray), l.drop i = r → r.length < n →
    L_ref45_has 2 n ⟨[(0, .sl (l.map Go.Abs.eS)), (1, S x), (4, .any), (5, I i)], []⟩ =
      if Rl.hasS r x = true then some (.ret, ⟨[(0, .any), (1, .any), (4, B true), (5, .any)], []⟩) else some (.ex 0, ⟨[(0, .any), (1, .any), (4, .any), (5, .any)], []⟩) := by
  refine lind l _ ?_ ?_
  · intro n i hr
    rw [L_ref45_has_succ, R_ref45_has_eq]
    simp [dn hr, Rl.hasS]
  · intro n i y r hr hi ih
    rw [L_ref45_has_succ, R_ref45_has_eq]
    obtain ⟨h1, h3, hr', _⟩ := dc (enc := Go.Abs.eS) hr
    have hw := wrapN (n := i) (by omega)
    simp at ih
    by_cases hq : y = x
    · simp [h1, h3, hq, Rl.hasS]
    · simp [h1, h3, hq, hw, Rl.hasS, ih]
theorem rhas_run' (l : List ByteArray) (x : ByteArray) (hl : l.length ≤ 1000000) : F_ref45_has [.sl (l.map Go.Abs.eS), S x] = some (B (Rl.hasS l x)) := by
  rw [F_ref45_has_eq]
  have ih := rhas_loop l x hl bigL 0 l rfl (by have := bigL_ge; omega)
  simp at ih
  cases h : Rl.hasS l x <;> simp [h] at ih <;> simp [ih]
theorem rexpl_loop (b : Bd) (c : List Pd) (s : Spc) (l : Rls) (a : Nat) (ha : a < l.length) (hl : l.length ≤ 1000) (hx : ∀ x ∈ l, Rl.Fits x.2) (hn : ∀ x ∈ l, Rl.nodes 8 x.2 ≤ 1000) : ∀ (n i : Nat) (r : Rls), (l.take (a + 1)).drop i = r → r.length < n → ∀ acc : List ByteArray, acc.length + nodesR r ≤ 1000000 →
    L_ref45_Explain 8 n ⟨[(0, .any), (1, .sl (c.map ePd)), (2, .any), (3, .sl (l.map Rl.eR)), (4, .ptr 4 0), (6, .ptr 6 0), (8, .any), (9, .any), (11, I a), (12, .any), (13, .row 13), (14, I i), (15, .any), (16, .any), (17, .any), (18, .any), (19, .any), (20, .any), (21, .any), (22, .any)], [(4, .box 30 (eBd b)), (6, .box 33 (eS s)), (13, .row 9 1 true (acc.map Go.Abs.eS))]⟩ =
      some (.ex 0, ⟨[(0, .any), (1, .sl (c.map ePd)), (2, .any), (3, .any), (4, .ptr 4 0), (6, .ptr 6 0), (8, .any), (9, .any), (11, .any), (12, .any), (13, .row 13), (14, .any), (15, .any), (16, .any), (17, .any), (18, .any), (19, .any), (20, .any), (21, .any), (22, .any)], [(4, .box 30 (eBd b)), (6, .box 33 (eS s)), (13, .row 9 1 true ((acc ++ usedL r).map Go.Abs.eS))]⟩) := by
  refine lind (l.take (a + 1)) _ ?_ ?_
  · intro n i hr acc hacc
    rw [L_ref45_Explain_succ, R_ref45_Explain_eq]
    have hlen : (l.take (a + 1)).length ≤ i := by simpa using List.drop_eq_nil_iff.1 hr
    rw [List.length_take] at hlen
    have h1 : ¬ (i : Int) ≤ a := by omega
    simp [h1, usedL]
  · intro n i x r hr hi ih acc hacc
    rw [L_ref45_Explain_succ, R_ref45_Explain_eq]
    rw [List.length_take] at hi
    have h1 : (i : Int) ≤ a := by omega
    have h3 : (i : Int) < l.length := by omega
    have hx0 : l[i]? = some x := by
      have := congrArg (fun t => t[0]?) hr
      simp only [List.getElem?_drop, Nat.add_zero, List.getElem?_cons_zero] at this
      rw [List.getElem?_take_of_lt (by omega)] at this
      exact this
    have hw := wrapN (n := i) (by omega)
    have hxm : x ∈ l := List.mem_of_getElem? hx0
    obtain ⟨d', hd, hu⟩ := Rl.rUses_run x.2 (hx x hxm) (by have := hn x hxm; omega)
    rw [← Rl.uses_eq] at hd
    have hc := compact_le (Rl.ment 8 x.2)
    have hm := Rl.ment_le 8 x.2
    have hcount : (compactS (sortS (Rl.ment 8 x.2))).length ≤ Rl.nodes 8 x.2 := by omega
    simp only [nodesR] at hacc
    unfold usedL
    have ih' := ih (acc ++ compactS (sortS (Rl.ment 8 x.2))) (by simp; omega)
    generalize compactS (sortS (Rl.ment 8 x.2)) = q at *
    rw [List.append_assoc] at ih'
    have hq : (acc.length + q.length) * 17 ≤ 140737488355328 := by omega
    simp at ih' hu
    have hall : q.all ((fun e => e.all isX) ∘ Go.Abs.eS) = true := by simp
    rcases hd with rfl | rfl <;> simp [h1, h3, hx0, hu, hw, hq, hall, ih']
/-- The least name above a name. -/
def nextR (last next : ByteArray) : List ByteArray → ByteArray
  | [] => next
  | x :: r => if Op.bytesLess x.toList last.toList = false ∧ ¬ x = last then if next = ByteArray.empty then nextR last x r else if Op.bytesLess x.toList next.toList = true then nextR last x r else nextR last next r else nextR last next r
def nextB (last next : ByteArray) : List ByteArray → ByteArray
  | [] => next
  | x :: r => if Op.bytesLess (bytesL x) (bytesL last) = false ∧ ¬ x = last then if next = ByteArray.empty then nextB last x r else if Op.bytesLess (bytesL x) (bytesL next) = true then nextB last x r else nextB last next r else nextB last next r
theorem nextR_eq (last : ByteArray) : ∀ (l : List ByteArray) (next : ByteArray), nextR last next l = nextB last next l
  | [], _ => rfl
  | x :: r, next => by
    have ih := nextR_eq last r
    simp only [nextR, nextB, Rl.toList_bytes, ih]
def chainB (last : ByteArray) : List ByteArray → Prop
  | [] => True
  | x :: r => nextB last ByteArray.empty nmsF = x ∧ chainB x r
instance chainBDec : ∀ (last : ByteArray) (l : List ByteArray), Decidable (chainB last l)
  | _, [] => .isTrue trivial
  | last, x :: r => @instDecidableAnd _ _ (inferInstanceAs (Decidable (nextB last ByteArray.empty nmsF = x))) (chainBDec x r)
theorem chain_ok : chainB ByteArray.empty ascF := by decide +kernel
theorem next_loop (f : List (ByteArray × Int)) (u : List ByteArray) (out last : ByteArray) (k : Int) (nms : List ByteArray) (hl : nms.length ≤ 1000) : ∀ (n i : Nat) (r : List ByteArray), nms.drop i = r → r.length < n → ∀ next : ByteArray,
    L_ref45_Explain 19 n ⟨[(0, .any), (1, .any), (2, .any), (3, .any), (4, .any), (6, .any), (8, .any), (9, .any), (11, .any), (12, .any), (13, .row 13), (14, .any), (15, .own true (f.map eFt)), (16, .own true (nms.map eNm)), (17, S out), (18, S last), (19, I k), (20, S next), (21, I i), (22, .any)], [(13, .row 9 1 true (u.map Go.Abs.eS))]⟩ =
      some (.ex 4, ⟨[(0, .any), (1, .any), (2, .any), (3, .any), (4, .any), (6, .any), (8, .any), (9, .any), (11, .any), (12, .any), (13, .row 13), (14, .any), (15, .own true (f.map eFt)), (16, .own true (nms.map eNm)), (17, S out), (18, .any), (19, I k), (20, S (nextR last next r)), (21, .any), (22, .any)], [(13, .row 9 1 true (u.map Go.Abs.eS))]⟩) := by
  refine lind nms _ ?_ ?_
  · intro n i hr next
    rw [L_ref45_Explain_succ, R_ref45_Explain_eq]
    simp [dn hr, nextR]
  · intro n i x r hr hi ih next
    rw [L_ref45_Explain_succ, R_ref45_Explain_eq]
    obtain ⟨h1, h3, hr', _⟩ := dc (enc := eNm) hr
    have hw := wrapN (n := i) (by omega)
    have i1 := ih x
    have i2 := ih next
    simp at i1 i2
    unfold nextR
    by_cases c1 : Op.bytesLess x.toList last.toList = false ∧ ¬ x = last
    · by_cases c2 : next = ByteArray.empty
      · simp [h1, h3, hw, c1, c2, i1]
      · by_cases c3 : Op.bytesLess x.toList next.toList = true
        · simp [h1, h3, hw, c1, c2, c3, i1]
        · simp [h1, h3, hw, c1, c2, c3, i2]
    · simp [h1, h3, hw, c1, i2]
theorem out_loop (f : List (ByteArray × Int)) (hf : ∀ x ∈ f, i64 x.2) (hfl : f.length ≤ 1000) (u : List ByteArray) (hu : u.length ≤ 1000000) : ∀ (n k : Nat) (r : List ByteArray), ascF.drop k = r → r.length < n → ∀ last out : ByteArray, chainB last r → out.size + r.length * 300 ≤ 10000 →
    L_ref45_Explain 15 n ⟨[(0, .any), (1, .any), (2, .any), (3, .any), (4, .any), (6, .any), (8, .any), (9, .any), (11, .any), (12, .any), (13, .row 13), (14, .any), (15, .own true (f.map eFt)), (16, .own true (nmsF.map eNm)), (17, S out), (18, S last), (19, I k), (20, .any), (21, .any), (22, .any)], [(13, .row 9 1 true (u.map Go.Abs.eS))]⟩ =
      some (.ex 2, ⟨[(0, .any), (1, .any), (2, .any), (3, .any), (4, .any), (6, .any), (8, .any), (9, .any), (11, .any), (12, .any), (13, .any), (14, .any), (15, .any), (16, .any), (17, S (outL u f out r)), (18, .any), (19, .any), (20, .any), (21, .any), (22, .any)], []⟩) := by
  have hlen : nmsF.length = 18 := rfl
  have hasc : ascF.length = 18 := rfl
  refine lind ascF _ ?_ ?_
  · intro n k hr last out hc ho
    have hk : ascF.length ≤ k := by simpa using List.drop_eq_nil_iff.1 hr
    rw [L_ref45_Explain_succ, R_ref45_Explain_eq]
    have h2 : ¬ (k : Int) < nmsF.length := by omega
    generalize nmsF = nms at *
    simp [h2, outL]
  · intro n k x r hr hk ih last out hc ho
    rw [L_ref45_Explain_succ, R_ref45_Explain_eq]
    obtain ⟨hx, hc⟩ := hc
    have h2 : (k : Int) < nmsF.length := by omega
    have hw := wrapN (n := k) (by omega)
    have hn := next_loop f u out last k nmsF (by omega) bigL 0 nmsF rfl (by have := bigL_ge; omega) ⟨#[]⟩
    have ex : nextR last ⟨#[]⟩ nmsF = x := by rw [nextR_eq]; exact hx
    rw [ex] at hn
    have hxs := ascF_size x (by rw [← List.take_append_drop k ascF, hr]; simp)
    have hh := rhas_run' u x hu
    have hg := rget_run f x hfl
    have hb := getF_i64 hf x
    have hd := decimal_run (getF x f).1 hb.1 hb.2
    have hil := itoa_len hb
    simp only [List.length_cons] at ho
    have e1 : (⟨#[61]⟩ : ByteArray).size = 1 := rfl
    have e2 : (⟨#[32]⟩ : ByteArray).size = 1 := rfl
    unfold outL
    have he : (⟨#[]⟩ : ByteArray) = ByteArray.empty := rfl
    rw [he]
    generalize nmsF = nms at *
    simp at hn
    by_cases c1 : Rl.hasS u x = true
    · rw [if_pos c1]
      rw [c1] at hh
      by_cases c2 : out = ByteArray.empty
      · rw [if_pos c2]
        subst c2
        have z0 : (ByteArray.empty).size = 0 := rfl
        have i1 := ih x (((ByteArray.empty ++ x) ++ ⟨#[61]⟩) ++ itoaS (getF x f).1) hc (by rw [size_app, size_app, size_app, e1, z0]; omega)
        have z1 : ¬ (9223372036854775807 : Int) < (x.size : Int) + (⟨#[61]⟩ : ByteArray).size := by rw [e1]; omega
        have z2 : ¬ (9223372036854775807 : Int) < (x.size : Int) + (⟨#[61]⟩ : ByteArray).size + (itoaS (getF x f).1).size := by rw [e1]; omega
        have z3 : ¬ (9223372036854775807 : Int) < (x.size : Int) := by omega
        simp at i1
        simp [h2, hw, hn, hh, hg, hd, z1, z2, z3, i1]
      · rw [if_neg c2]
        have i1 := ih x ((((out ++ spB) ++ x) ++ ⟨#[61]⟩) ++ itoaS (getF x f).1) hc (by rw [size_app, size_app, size_app, size_app, e1]; simp only [spB, e2]; omega)
        have z1 : ¬ (9223372036854775807 : Int) < (out.size : Int) + (⟨#[32]⟩ : ByteArray).size := by rw [e2]; omega
        have z2 : ¬ (9223372036854775807 : Int) < (out.size : Int) + (⟨#[32]⟩ : ByteArray).size + x.size := by rw [e2]; omega
        have z3 : ¬ (9223372036854775807 : Int) < (out.size : Int) + (⟨#[32]⟩ : ByteArray).size + x.size + (⟨#[61]⟩ : ByteArray).size := by rw [e1, e2]; omega
        have z4 : ¬ (9223372036854775807 : Int) < (out.size : Int) + (⟨#[32]⟩ : ByteArray).size + x.size + (⟨#[61]⟩ : ByteArray).size + (itoaS (getF x f).1).size := by rw [e1, e2]; omega
        simp [spB] at i1
        simp [h2, hw, hn, hh, hg, hd, c2, z1, z2, z3, z4, i1, spB]
    · rw [if_neg c1]
      have c1' : Rl.hasS u x = false := by simpa using c1
      rw [c1'] at hh
      have i1 := ih x out hc (by omega)
      simp at i1
      simp [h2, hw, hn, hh, i1]
end Go.Proofs.YtldekjlihfidlaaGreatDoor
namespace Go.Proofs.YtldekjlihfidlaaGreatDoor
set_option linter.unusedSimpArgs false
set_option linter.unusedVariables false
open Go Go.Abs
set_option maxHeartbeats 8000000
set_option maxRecDepth 100000
theorem rexplain_run (b : Bd) (c : List Pd) (s : Spc) (l : Rls) (hl : l.length ≤ 1000) (hx : ∀ x ∈ l, Rl.Fits x.2) (hn : nodesR l ≤ 1000) :
    F_ref45_Explain [.agg (eBd b), .sl (c.map ePd), .agg (eS s), .sl (l.map Rl.eR)] = some (.tup [S (if (gOf b c s l).2.2 = 0 then explS l (featsO b c s) (gOf b c s l).2.1 else ⟨#[]⟩), I (gOf b c s l).2.2]) := by
  rw [F_ref45_Explain_eq]
  have h1 := rgof_run b c s l hl hx
  by_cases g : (gOf b c s l).2.2 = 0
  · rw [if_pos g]
    have hidx := gOf_idx g
    have hv := chk_vis (gOf_zero g)
    have h2 := rofO_run b c s
    have hf := featsO_i64 b c s
    have hfl := featsO_le b c s
    have h4 := rnames_run
    have hee := expl_eq l (featsO b c s) (gOf b c s l).2.1 hv
    generalize gOf b c s l = t at *
    obtain ⟨t1, t2, t3⟩ := t
    simp only at g hidx hee
    subst g
    have hq : nodesR (upto l t2) ≤ 1000 := by
      unfold upto
      split
      · exact Nat.le_trans (nodesR_take l _) hn
      · exact hn
    have hul := usedL_len (upto l t2)
    have hO := out_loop (featsO b c s) hf (by omega) (usedL (upto l t2)) (by omega) bigL 0 ascF rfl (by have := bigL_ge; have : ascF.length = 18 := rfl; omega) ⟨#[]⟩ ⟨#[]⟩ chain_ok (by decide)
    rw [hee] at hO
    have hL : ∀ a : Nat, a < l.length → upto l t2 = l.take (a + 1) → L_ref45_Explain 8 bigL ⟨[(0, .any), (1, .sl (c.map ePd)), (2, .any), (3, .sl (l.map Rl.eR)), (4, .ptr 4 0), (6, .ptr 6 0), (8, .any), (9, .any), (11, I a), (12, .any), (13, .row 13), (14, I 0), (15, .any), (16, .any), (17, .any), (18, .any), (19, .any), (20, .any), (21, .any), (22, .any)], [(4, .box 30 (eBd b)), (6, .box 33 (eS s)), (13, .row 9 1 true [])]⟩ =
      some (.ex 0, ⟨[(0, .any), (1, .sl (c.map ePd)), (2, .any), (3, .any), (4, .ptr 4 0), (6, .ptr 6 0), (8, .any), (9, .any), (11, .any), (12, .any), (13, .row 13), (14, .any), (15, .any), (16, .any), (17, .any), (18, .any), (19, .any), (20, .any), (21, .any), (22, .any)], [(4, .box 30 (eBd b)), (6, .box 33 (eS s)), (13, .row 9 1 true ((usedL (upto l t2)).map Go.Abs.eS))]⟩) := by
      intro a ha e
      have := rexpl_loop b c s l a ha hl hx (fun x hx' => Nat.le_trans (nodesR_mem hx') hn) bigL 0 (l.take (a + 1)) rfl (by have := bigL_ge; rw [List.length_take]; omega) [] (by rw [← e]; simp; omega)
      rw [e]
      exact this
    generalize explS l (featsO b c s) t2 = out at *
    generalize featsO b c s = f at *
    rcases hidx with ⟨rfl, rfl⟩ | ⟨k, hk, rfl⟩
    · have eu : upto l (-1) = l := rfl
      rw [eu] at hL hO
      by_cases hz : l = []
      · subst hz
        obtain ⟨q, hq⟩ : ∃ q, bigL = q + 1 := ⟨bigL - 1, by have := bigL_ge; omega⟩
        have hL0 : L_ref45_Explain 8 bigL ⟨[(0, .any), (1, .sl (c.map ePd)), (2, .any), (3, .sl []), (4, .ptr 4 0), (6, .ptr 6 0), (8, .any), (9, .any), (11, I (-1)), (12, .any), (13, .row 13), (14, I 0), (15, .any), (16, .any), (17, .any), (18, .any), (19, .any), (20, .any), (21, .any), (22, .any)], [(4, .box 30 (eBd b)), (6, .box 33 (eS s)), (13, .row 9 1 true [])]⟩ =
          some (.ex 0, ⟨[(0, .any), (1, .sl (c.map ePd)), (2, .any), (3, .any), (4, .ptr 4 0), (6, .ptr 6 0), (8, .any), (9, .any), (11, .any), (12, .any), (13, .row 13), (14, .any), (15, .any), (16, .any), (17, .any), (18, .any), (19, .any), (20, .any), (21, .any), (22, .any)], [(4, .box 30 (eBd b)), (6, .box 33 (eS s)), (13, .row 9 1 true [])]⟩) := by
          rw [hq, L_ref45_Explain_succ, R_ref45_Explain_eq]
          simp
        generalize nmsF = nms at *
        simp [usedL] at h1 h2 hL0 hO
        simp [h1, h2, h4, hL0, hO]
      · have hpos : 0 < l.length := by cases l with | nil => exact absurd rfl hz | cons x r => simp
        have := hL (l.length - 1) (by omega) (by rw [List.take_of_length_le (by omega)])
        have hc : ((l.length - 1 : Nat) : Int) = (l.length : Int) - 1 := by omega
        have hw : IntKind.i64.wrap ((l.length : Int) - 1) = (l.length : Int) - 1 := wrap64 (by omega) (by omega)
        rw [hc] at this
        generalize usedL l = u at *
        generalize nmsF = nms at *
        clear hL
        simp at h1 h2 this hO
        simp [h1, h2, h4, hw, this, hO]
    · have := hL k hk (by simp [upto])
      have k0 : ¬ (k : Int) < 0 := by omega
      generalize usedL (upto l (k : Int)) = u at *
      generalize nmsF = nms at *
      clear hL
      simp at h1 h2 this hO
      simp [h1, h2, h4, k0, this, hO]
  · rw [if_neg g]
    simp at h1
    simp [h1, g]
/-! ### The examples -/
def mentR : Rls → List ByteArray
  | [] => []
  | r :: l => Rl.ment 8 r.2 ++ mentR l
theorem mentR_mem (x : ByteArray) : ∀ l : Rls, x ∈ usedL l ↔ x ∈ mentR l
  | [] => Iff.rfl
  | r :: l => by
    have h := (Rl.uses_asc (Rl.ment 8 r.2)).2 x
    have ih := mentR_mem x l
    simp only [usedL, mentR, List.mem_append, h, ih]
theorem outL_congr {u v : List ByteArray} (h : ∀ x, x ∈ u ↔ x ∈ v) (f : List (ByteArray × Int)) : ∀ (r : List ByteArray) (out : ByteArray), outL u f out r = outL v f out r
  | [], _ => rfl
  | x :: r, out => by
    have e : Rl.hasS u x = Rl.hasS v x := by
      rw [Bool.eq_iff_iff, Rl.hasS_iff, Rl.hasS_iff]
      exact h x
    unfold outL
    rw [e, outL_congr h f r, outL_congr h f r]
theorem fit0 (op n : Int) (s : ByteArray) (h1 : i64 op) (h2 : i64 n) (h3 : s.size ≤ 100) : Rl.Fits (.mk op n s []) := .mk h1 h2 (by simp [Rl.Ex.name]; omega) (by simp [Rl.Ex.args]) (fun a ha => by simp [Rl.Ex.args] at ha)
theorem fit2 (op n : Int) (s : ByteArray) (a b : Rl.Ex) (h1 : i64 op) (h2 : i64 n) (h3 : s.size ≤ 100) (ha : Rl.Fits a) (hb : Rl.Fits b) : Rl.Fits (.mk op n s [a, b]) := .mk h1 h2 (by simp [Rl.Ex.name]; omega) (by simp [Rl.Ex.args]) (fun x hx => by
  simp [Rl.Ex.args] at hx
  rcases hx with rfl | rfl
  · exact ha
  · exact hb)
theorem tabE_fits : ∀ x ∈ tabE, Rl.Fits x.2 := by
  intro x hx
  have k : ∀ n : Int, -10000 ≤ n → n ≤ 10000 → i64 n := fun n h0 h1 => ⟨by omega, by omega⟩
  simp only [tabE, List.mem_cons, List.not_mem_nil, or_false] at hx
  rcases hx with rfl | rfl | rfl
  · exact fit2 _ _ _ _ _ (k _ (by decide) (by decide)) (k _ (by decide) (by decide)) (by decide) (fit2 _ _ _ _ _ (k _ (by decide) (by decide)) (k _ (by decide) (by decide)) (by decide) (fit0 _ _ _ (k _ (by decide) (by decide)) (k _ (by decide) (by decide)) (by decide)) (fit0 _ _ _ (k _ (by decide) (by decide)) (k _ (by decide) (by decide)) (by decide))) (fit2 _ _ _ _ _ (k _ (by decide) (by decide)) (k _ (by decide) (by decide)) (by decide) (fit0 _ _ _ (k _ (by decide) (by decide)) (k _ (by decide) (by decide)) (by decide)) (fit0 _ _ _ (k _ (by decide) (by decide)) (k _ (by decide) (by decide)) (by decide)))
  · exact fit2 _ _ _ _ _ (k _ (by decide) (by decide)) (k _ (by decide) (by decide)) (by decide) (fit0 _ _ _ (k _ (by decide) (by decide)) (k _ (by decide) (by decide)) (by decide)) (fit0 _ _ _ (k _ (by decide) (by decide)) (k _ (by decide) (by decide)) (by decide))
  · exact fit2 _ _ _ _ _ (k _ (by decide) (by decide)) (k _ (by decide) (by decide)) (by decide) (fit0 _ _ _ (k _ (by decide) (by decide)) (k _ (by decide) (by decide)) (by decide)) (fit0 _ _ _ (k _ (by decide) (by decide)) (k _ (by decide) (by decide)) (by decide))
def samp1 : Bd := sampE [knotE 0] 1500
def samp6 : Bd := sampE [knotE 0, knotE 200, knotE 400, knotE 600, knotE 800, knotE 1000] 1500
theorem aw1 : gOf samp1 [plankE] pineE tabE = (1, 0, 0) := by decide +kernel
theorem aw6 : gOf samp6 [plankE] pineE tabE = (3, 2, 0) := by decide +kernel
def awS1 : ByteArray := ⟨#[107, 110, 111, 116, 115, 61, 49, 32, 119, 97, 110, 101, 61, 48]⟩
def awS6 : ByteArray := ⟨#[107, 110, 111, 116, 115, 61, 54, 32, 109, 111, 105, 115, 116, 61, 49, 53, 48, 48, 32, 119, 97, 110, 101, 61, 48]⟩
theorem aw1s : outL (mentR (upto tabE 0)) (featsO samp1 [plankE] pineE) ⟨#[]⟩ ascF = awS1 := by decide +kernel
theorem aw6s : outL (mentR (upto tabE 2)) (featsO samp6 [plankE] pineE) ⟨#[]⟩ ascF = awS6 := by decide +kernel
theorem aw_vis {b : Bd} {i j : Int} (h : gOf b [plankE] pineE tabE = (i, j, 0)) : ∀ x ∈ tabE, Rl.vis nmsF 8 x.2 = 0 := chk_vis (b := b) (c := [plankE]) (s := pineE) (gOf_zero (by rw [h]))
theorem aw1e : explS tabE (featsO samp1 [plankE] pineE) 0 = awS1 := by
  rw [← expl_eq tabE _ 0 (aw_vis aw1), outL_congr (fun x => mentR_mem x (upto tabE 0))]
  exact aw1s
theorem aw6e : explS tabE (featsO samp6 [plankE] pineE) 2 = awS6 := by
  rw [← expl_eq tabE _ 2 (aw_vis aw6), outL_congr (fun x => mentR_mem x (upto tabE 2))]
  exact aw6s
theorem tab_len : tabE.length ≤ 1000 := by decide
theorem tab_nodes : nodesR tabE ≤ 1000 := by decide +kernel
theorem of1_aw : F_grading_Of [.agg (eBd samp1), .sl ([plankE].map ePd), .agg (eS pineE), .sl (tabE.map Rl.eR)] = some (.tup [I 1, I 0, I 0]) := by
  have h := gof_run samp1 [plankE] pineE tabE tab_len tabE_fits
  rw [aw1] at h
  exact h
theorem of6_aw : F_grading_Of [.agg (eBd samp6), .sl ([plankE].map ePd), .agg (eS pineE), .sl (tabE.map Rl.eR)] = some (.tup [I 3, I 2, I 0]) := by
  have h := gof_run samp6 [plankE] pineE tabE tab_len tabE_fits
  rw [aw6] at h
  exact h
theorem ex_aw {b : Bd} {i j : Int} {out : ByteArray} (h1 : gOf b [plankE] pineE tabE = (i, j, 0)) (h2 : explS tabE (featsO b [plankE] pineE) j = out) : F_grading_Explain [.agg (eBd b), .sl ([plankE].map ePd), .agg (eS pineE), .sl (tabE.map Rl.eR)] = some (.tup [S out, I 0]) := by
  have h := explain_run b [plankE] pineE tabE tab_len tabE_fits tab_nodes
  generalize gOf b [plankE] pineE tabE = t at *
  subst h1
  rw [h, ← h2]
  rfl
theorem ex1_aw : F_grading_Explain [.agg (eBd samp1), .sl ([plankE].map ePd), .agg (eS pineE), .sl (tabE.map Rl.eR)] = some (.tup [S awS1, I 0]) := ex_aw aw1 aw1e
theorem ex6_aw : F_grading_Explain [.agg (eBd samp6), .sl ([plankE].map ePd), .agg (eS pineE), .sl (tabE.map Rl.eR)] = some (.tup [S awS6, I 0]) := ex_aw aw6 aw6e
theorem again13 : F_grading_Again [I 1, I 3] = some (.tup [I 3, I 0]) := again_run 1 3
theorem again31 : F_grading_Again [I 3, I 1] = some (.tup [I 0, I 11]) := again_run 3 1
theorem awake_of (b1 b6 : Bd) (pl : List Pd) (w : Spc) (tab : Rls) (t1 t6 : ByteArray) (e1 : t1.toList = [107, 110, 111, 116, 115, 61, 49, 32, 119, 97, 110, 101, 61, 48]) (e6 : t6.toList = [107, 110, 111, 116, 115, 61, 54, 32, 109, 111, 105, 115, 116, 61, 49, 53, 48, 48, 32, 119, 97, 110, 101, 61, 48])
    (s1 : F_law45_SampleX [I 1, I 1500] = some (.agg (eBo b1))) (s6 : F_law45_SampleX [I 6, I 1500] = some (.agg (eBo b6))) (hp : F_law45_Plank [] = some (.own false (pl.map ePd))) (hq : F_law45_Pine [] = some (.agg (eS w))) (ht : F_law45_Table [] = some (.own false (tab.map Rl.eR)))
    (o1 : F_grading_Of [.agg (eBd b1), .sl (pl.map ePd), .agg (eS w), .sl (tab.map Rl.eR)] = some (.tup [I 1, I 0, I 0])) (o6 : F_grading_Of [.agg (eBd b6), .sl (pl.map ePd), .agg (eS w), .sl (tab.map Rl.eR)] = some (.tup [I 3, I 2, I 0]))
    (x1 : F_grading_Explain [.agg (eBd b1), .sl (pl.map ePd), .agg (eS w), .sl (tab.map Rl.eR)] = some (.tup [S t1, I 0])) (x6 : F_grading_Explain [.agg (eBd b6), .sl (pl.map ePd), .agg (eS w), .sl (tab.map Rl.eR)] = some (.tup [S t6, I 0]))
    (g1 : F_grading_Again [I 1, I 3] = some (.tup [I 3, I 0])) (g2 : F_grading_Again [I 3, I 1] = some (.tup [I 0, I 11])) : F_law45_awakeX [] = some (B true) := by
  rw [F_law45_awakeX_eq]
  simp [eBo] at s1 s6
  simp at hq o1 o6 x1 x6
  simp [s1, s6, hp, hq, ht, o1, o6, x1, x6, g1, g2, e1, e6]
theorem awake_run : F_law45_awakeX [] = some (B true) :=
  awake_of samp1 samp6 [plankE] pineE tabE awS1 awS6 (by rw [Go.ByteArray.toList_eq]; rfl) (by rw [Go.ByteArray.toList_eq]; rfl) (sample1_run 1500) (sample6_run 1500) plank_run pine_run table_run of1_aw of6_aw ex1_aw ex6_aw again13 again31
/-- The examples, as a call: closed terms that reach the whole program are kept out of the statements' own runs. -/
noncomputable def F_awk (ds : List D) : Option D := match ds with
  | [] => some (B true)
  | _ => none
@[simp] theorem F_awk_eq : F_awk [] = some (B true) := Eq.trans rfl rfl
theorem C_awk (ds : List D) (r : D) (h : F_awk ds = some r) : Contract Tryz.prog gl 7 ds r := by
  cases ds with
  | nil =>
    cases h
    exact C_law45_awakeX [] _ awake_run
  | cons d ds => cases h
end Go.Proofs.YtldekjlihfidlaaGreatDoor
namespace Go.Proofs.YtldekjlihfidlaaGreatDoor
open Go Go.Abs
set_option maxRecDepth 100000
set_option linter.unusedSimpArgs false
set_option linter.unusedVariables false
noncomputable section
attribute [simp] Tryz.f3 Tryz.f4 Tryz.f5
def z169a : Ann := ⟨[1, 2, 3, 4, 5, 6, 7, 8, 9, 10, 11, 12], [15], [], [], [], some [2], [], [], [(64, 0, 92, 2)], []⟩
@[simp] theorem z169a_draws : z169a.draws = [] := rfl
@[simp] theorem z169a_exits : z169a.exits = [] := rfl
@[simp] theorem z169a_rets : z169a.rets = some [2] := rfl
@[simp] theorem z169a_keep : z169a.keep = [1, 2, 3, 4, 5, 6, 7, 8, 9, 10, 11, 12] := rfl
@[simp] theorem z169a_cond : z169a.cond = [15] := rfl
@[simp] theorem z169a_rows : z169a.rows = [] := rfl
@[simp] theorem z169a_loops : z169a.loops = [] := rfl
@[simp] theorem z169a_ecalls : z169a.ecalls = [] := rfl
@[simp] theorem z169a_crows : z169a.crows = [(64, 0, 92, 2)] := rfl
@[simp] theorem z169a_tails : z169a.tails = [] := rfl
@[simp] def z169b : PL := [(6, F_law45_Small), (7, F_awk), (8, F_grading_Of), (9, F_ref45_Of), (10, F_grading_Explain), (11, F_ref45_Explain)]
def z169c : CT := ⟨callOf (z169b ), callOfE noE, gl⟩
@[simp] theorem z169c_p (f : FuncId) (ds : List D) : z169c.p f ds = callOf (z169b ) f ds := Eq.trans rfl rfl
@[simp] theorem z169c_e (f : FuncId) (hs : List (Nat × O)) (ds : List D) : z169c.e f hs ds = callOfE noE f hs ds := Eq.trans rfl rfl
@[simp] theorem z169c_g (g : Nat) : z169c.g g = gl g := Eq.trans rfl rfl
def L_law45_GradingOfY (i n : Nat) (s : St) : OS := atN Tryz.prog z169c z169a 93 (bodyOf Tryz.f3) i n s
def z169h (n i : Nat) (s : St) : OS := atH Tryz.prog z169c z169a 93 (bodyOf Tryz.f3) n i s
@[simp] theorem z169h_eq (n i : Nat) (s : St) : z169h n i s = L_law45_GradingOfY i n (headOf (z169a.loops.lookup i) s) := rfl
def R_law45_GradingOfY (i : Nat) (s : St) : OS := stepL Tryz.prog z169c z169a 93 (bodyOf Tryz.f3) i s
theorem z169k : okLoops (bodyOf Tryz.f3) = true := by kernel_rfl
def F_law45_GradingOfY (ds : List D) : Option D := runF Tryz.prog z169c z169a 93 (bodyOf Tryz.f3) [.tmp 2] ds
theorem F_law45_GradingOfY_eq (ds : List D) : F_law45_GradingOfY ds = runG Tryz.prog z169c (z169h bigL) z169a 93 (bodyOf Tryz.f3) [.tmp 2] ds := runG_eq z169k _ ds
theorem C_law45_GradingOfY (ds : List D) (r : D) (h : F_law45_GradingOfY ds = some r) : Contract Tryz.prog gl 3 ds r := contract_of mix Tryz.func3 rfl (by kernel_rfl) (by kernel_rfl) (by decide) (call := z169c) ⟨callOf_ok z169b ⟨C_law45_Small, C_awk, C_grading_Of, C_ref45_Of, C_grading_Explain, C_ref45_Explain, trivial⟩, callOfE_ok noE trivial⟩ h
def z170a : Ann := ⟨[1, 2, 3, 6, 7, 8, 9, 10, 11, 12, 13, 14, 15, 16, 17, 18, 19], [30, 46, 53, 77], [], [], [], some [6], [(10, 18), (11, 17)], [], [(64, 0, 92, 2)], []⟩
@[simp] theorem z170a_draws : z170a.draws = [(10, 18), (11, 17)] := rfl
@[simp] theorem z170a_exits : z170a.exits = [] := rfl
@[simp] theorem z170a_rets : z170a.rets = some [6] := rfl
@[simp] theorem z170a_keep : z170a.keep = [1, 2, 3, 6, 7, 8, 9, 10, 11, 12, 13, 14, 15, 16, 17, 18, 19] := rfl
@[simp] theorem z170a_cond : z170a.cond = [30, 46, 53, 77] := rfl
@[simp] theorem z170a_rows : z170a.rows = [] := rfl
@[simp] theorem z170a_loops : z170a.loops = [] := rfl
@[simp] theorem z170a_ecalls : z170a.ecalls = [] := rfl
@[simp] theorem z170a_crows : z170a.crows = [(64, 0, 92, 2)] := rfl
@[simp] theorem z170a_tails : z170a.tails = [] := rfl
@[simp] def z170b : PL := [(6, F_law45_Small), (7, F_awk), (8, F_grading_Of)]
def z170c : CT := ⟨callOf (z170b ), callOfE noE, gl⟩
@[simp] theorem z170c_p (f : FuncId) (ds : List D) : z170c.p f ds = callOf (z170b ) f ds := Eq.trans rfl rfl
@[simp] theorem z170c_e (f : FuncId) (hs : List (Nat × O)) (ds : List D) : z170c.e f hs ds = callOfE noE f hs ds := Eq.trans rfl rfl
@[simp] theorem z170c_g (g : Nat) : z170c.g g = gl g := Eq.trans rfl rfl
def L_law45_GradingFirstY (i n : Nat) (s : St) : OS := atN Tryz.prog z170c z170a 168 (bodyOf Tryz.f4) i n s
def z170h (n i : Nat) (s : St) : OS := atH Tryz.prog z170c z170a 168 (bodyOf Tryz.f4) n i s
@[simp] theorem z170h_eq (n i : Nat) (s : St) : z170h n i s = L_law45_GradingFirstY i n (headOf (z170a.loops.lookup i) s) := rfl
def R_law45_GradingFirstY (i : Nat) (s : St) : OS := stepL Tryz.prog z170c z170a 168 (bodyOf Tryz.f4) i s
theorem z170k : okLoops (bodyOf Tryz.f4) = true := by kernel_rfl
def F_law45_GradingFirstY (ds : List D) : Option D := runF Tryz.prog z170c z170a 168 (bodyOf Tryz.f4) [.tmp 6] ds
theorem F_law45_GradingFirstY_eq (ds : List D) : F_law45_GradingFirstY ds = runG Tryz.prog z170c (z170h bigL) z170a 168 (bodyOf Tryz.f4) [.tmp 6] ds := runG_eq z170k _ ds
theorem C_law45_GradingFirstY (ds : List D) (r : D) (h : F_law45_GradingFirstY ds = some r) : Contract Tryz.prog gl 4 ds r := contract_of mix Tryz.func4 rfl (by kernel_rfl) (by kernel_rfl) (by decide) (call := z170c) ⟨callOf_ok z170b ⟨C_law45_Small, C_awk, C_grading_Of, trivial⟩, callOfE_ok noE trivial⟩ h
def z171a : Ann := ⟨[0, 1, 2, 6, 7, 8, 9, 10, 11, 12, 13, 14, 15], [40, 60, 64, 75, 77], [], [(9, [0, 1, 7, 8, 11, 12, 13])], [(0, [0, 1, 7, 8]), (1, [0, 1, 7, 8, 11, 12, 13])], some [6], [(11, 8)], [], [(64, 0, 92, 2)], []⟩
@[simp] theorem z171a_draws : z171a.draws = [(11, 8)] := rfl
@[simp] theorem z171a_exits : z171a.exits = [(0, [0, 1, 7, 8]), (1, [0, 1, 7, 8, 11, 12, 13])] := rfl
@[simp] theorem z171a_rets : z171a.rets = some [6] := rfl
@[simp] theorem z171a_keep : z171a.keep = [0, 1, 2, 6, 7, 8, 9, 10, 11, 12, 13, 14, 15] := rfl
@[simp] theorem z171a_cond : z171a.cond = [40, 60, 64, 75, 77] := rfl
@[simp] theorem z171a_rows : z171a.rows = [] := rfl
@[simp] theorem z171a_loops : z171a.loops = [(9, [0, 1, 7, 8, 11, 12, 13])] := rfl
@[simp] theorem z171a_ecalls : z171a.ecalls = [] := rfl
@[simp] theorem z171a_crows : z171a.crows = [(64, 0, 92, 2)] := rfl
@[simp] theorem z171a_tails : z171a.tails = [] := rfl
@[simp] def z171b : PL := [(7, F_awk), (12, F_grading_Again), (13, F_ref45_Again), (14, F_grading_Counts), (15, F_ref45_Counts)]
def z171c : CT := ⟨callOf (z171b ), callOfE noE, gl⟩
@[simp] theorem z171c_p (f : FuncId) (ds : List D) : z171c.p f ds = callOf (z171b ) f ds := Eq.trans rfl rfl
@[simp] theorem z171c_e (f : FuncId) (hs : List (Nat × O)) (ds : List D) : z171c.e f hs ds = callOfE noE f hs ds := Eq.trans rfl rfl
@[simp] theorem z171c_g (g : Nat) : z171c.g g = gl g := Eq.trans rfl rfl
def L_law45_GradingAgainY (i n : Nat) (s : St) : OS := atN Tryz.prog z171c z171a 112 (bodyOf Tryz.f5) i n s
def z171h (n i : Nat) (s : St) : OS := atH Tryz.prog z171c z171a 112 (bodyOf Tryz.f5) n i s
@[simp] theorem z171h_eq (n i : Nat) (s : St) : z171h n i s = L_law45_GradingAgainY i n (headOf (z171a.loops.lookup i) s) := rfl
def R_law45_GradingAgainY (i : Nat) (s : St) : OS := stepL Tryz.prog z171c z171a 112 (bodyOf Tryz.f5) i s
theorem z171k : okLoops (bodyOf Tryz.f5) = true := by kernel_rfl
theorem L_law45_GradingAgainY_zero (i : Nat) (s : St) : L_law45_GradingAgainY i 0 s = none := rfl
theorem L_law45_GradingAgainY_succ (i n : Nat) (s : St) : L_law45_GradingAgainY i (n + 1) s = andThen (R_law45_GradingAgainY i s) (z171h n i) := atN_succ z171k i n s
theorem R_law45_GradingAgainY_eq (i : Nat) (s : St) : R_law45_GradingAgainY i s = runS Tryz.prog z171c (z171h bigL) z171a 112 (loopAt (bodyOf Tryz.f5) i) s := rfl
def F_law45_GradingAgainY (ds : List D) : Option D := runF Tryz.prog z171c z171a 112 (bodyOf Tryz.f5) [.tmp 6] ds
theorem F_law45_GradingAgainY_eq (ds : List D) : F_law45_GradingAgainY ds = runG Tryz.prog z171c (z171h bigL) z171a 112 (bodyOf Tryz.f5) [.tmp 6] ds := runG_eq z171k _ ds
theorem C_law45_GradingAgainY (ds : List D) (r : D) (h : F_law45_GradingAgainY ds = some r) : Contract Tryz.prog gl 5 ds r := contract_of mix Tryz.func5 rfl (by kernel_rfl) (by kernel_rfl) (by decide) (call := z171c) ⟨callOf_ok z171b ⟨C_awk, C_grading_Again, C_ref45_Again, C_grading_Counts, C_ref45_Counts, trivial⟩, callOfE_ok noE trivial⟩ h
end
end Go.Proofs.YtldekjlihfidlaaGreatDoor
namespace Go.Proofs.YtldekjlihfidlaaGreatDoor
set_option linter.unusedSimpArgs false
set_option linter.unusedVariables false
open Go Go.Abs
set_option maxHeartbeats 8000000
set_option maxRecDepth 100000
theorem of_law (g : Gg) (hf : ∀ x ∈ g.rs, Rl.Fits x.2) : F_law45_GradingOfY [.agg (eGg g)] = some (B true) := by
  rw [F_law45_GradingOfY_eq]
  have hs := lsmall_run g hf
  simp at hs
  cases h1 : smallG g
  · simp [hs, h1]
  · have hp := small_of h1
    have o1 := gof_run g.b g.ps g.s g.rs (by have := hp.rs; omega) hf
    have o2 := rgof_run g.b g.ps g.s g.rs (by have := hp.rs; omega) hf
    have x1 := explain_run g.b g.ps g.s g.rs (by have := hp.rs; omega) hf (by have := hp.nd; omega)
    have x2 := rexplain_run g.b g.ps g.s g.rs (by have := hp.rs; omega) hf (by have := hp.nd; omega)
    generalize (if (gOf g.b g.ps g.s g.rs).2.2 = 0 then explS g.rs (featsO g.b g.ps g.s) (gOf g.b g.ps g.s g.rs).2.1 else ⟨#[]⟩) = out at *
    generalize gOf g.b g.ps g.s g.rs = t at *
    simp at o1 o2 x1 x2
    simp [hs, h1, o1, o2, x1, x2]
theorem again_loop (g i a e : Int) (cs : List Int) (hl : cs.length ≤ 1000) : ∀ (n k : Nat) (r : List Int), cs.drop k = r → r.length < n →
    L_law45_GradingAgainY 9 n ⟨[(0, I g), (1, I i), (2, .any), (6, .any), (7, I a), (8, I e), (9, .any), (10, .any), (11, .own true (cs.map eI)), (12, .own true (cs.map eI)), (13, I k), (14, .any), (15, .any)], []⟩ =
      some (.ex 0, ⟨[(0, I g), (1, I i), (2, .any), (6, .any), (7, I a), (8, I e), (9, .any), (10, .any), (11, .any), (12, .any), (13, .any), (14, .any), (15, .any)], []⟩) := by
  refine lind cs _ ?_ ?_
  · intro n k hr
    rw [L_law45_GradingAgainY_succ, R_law45_GradingAgainY_eq]
    simp [dn hr]
  · intro n k x r hr hk ih
    rw [L_law45_GradingAgainY_succ, R_law45_GradingAgainY_eq]
    obtain ⟨h1, h3, hr', _⟩ := dc (enc := eI) hr
    have hw := wrapN (n := k) (by omega)
    simp at ih
    simp [h1, h3, hw, ih]
theorem againM_cases (g i : Int) : ((againM g i).2 ≠ 0 ∧ (againM g i).1 = 0) ∨ ((againM g i) = (i, 0) ∧ (0 ≤ i ∧ i ≤ 9) ∧ (i = 0 ∨ (g ≠ 0 ∧ g ≤ i))) := by
  unfold againM betterB
  repeat' split
  all_goals first | exact .inl ⟨by decide, rfl⟩ | skip
  rename_i _ _ _ _ h
  refine .inr ⟨rfl, by omega, ?_⟩
  simp at h
  by_cases h0 : i = 0
  · exact .inl h0
  · have := h h0
    exact .inr (by omega)
theorem againM_self {i : Int} (h : 0 ≤ i ∧ i ≤ 9) : againM i i = (i, 0) := by
  unfold againM betterB
  have a1 : ¬ i < 0 := by omega
  have a2 : ¬ 9 < i := by omega
  rw [if_neg a1, if_neg a2, if_neg a1, if_neg a2, if_neg]
  simp
theorem again_law (g i : Int) (l : List Bd) (hll : l.length ≤ 9223372036854775807) : F_law45_GradingAgainY [I g, I i, .sl (l.map eBd)] = some (B true) := by
  rw [F_law45_GradingAgainY_eq]
  have h1 := again_run g i
  have h2 := ragain_run g i
  by_cases hl : 100 < (l.length : Int)
  · generalize againM g i = t at *
    simp [h1, h2, hl]
  · have h3 := counts_run l (by omega)
    have h4 := rcounts_run l (by omega)
    have e1 : (cntB zero10 l).length = 10 := cntB_len l zero10
    have hL := fun a e => again_loop g i a e (cntB zero10 l) (by omega) bigL 0 (cntB zero10 l) rfl (by have := bigL_ge; omega)
    generalize cntB zero10 l = cs at *
    rcases againM_cases g i with ⟨a1, a2⟩ | ⟨a1, a2, a3⟩
    · generalize againM g i = t at *
      obtain ⟨t1, t2⟩ := t
      simp only at a1 a2
      subst a2
      have hL := hL 0 t2
      simp at h1 h2 hL
      simp [h1, h2, h3, h4, hl, e1, hL, a1]
    · have h5 := again_run i i
      rw [againM_self a2] at h5
      rw [a1] at h1 h2
      have hL := hL i 0
      simp at hL
      simp [h1, h2, h3, h4, h5, hl, e1, hL]
      omega
end Go.Proofs.YtldekjlihfidlaaGreatDoor
namespace Go.Proofs.YtldekjlihfidlaaGreatDoor
set_option linter.unusedSimpArgs false
set_option linter.unusedVariables false
open Go Go.Abs
set_option maxHeartbeats 8000000
set_option maxRecDepth 100000
/-- A board with other names. -/
def wid (b : Bd) (id log : ByteArray) : Bd := ⟨id, log, b.sp, b.prod, b.xa, b.xb, b.ya, b.yb, b.za, b.zb, b.vol, b.dfs, b.wane, b.cel, b.dried, b.grade⟩
theorem feats_wid (b : Bd) (id log : ByteArray) (p : Pd) (w : Spc) : feats (wid b id log) p w = feats b p w := rfl
theorem gOf_wid (b : Bd) (id log : ByteArray) (c : List Pd) (s : Spc) (l : Rls) (h : (gOf b c s l).2.2 = 0) (h2 : (gOf (wid b id log) c s l).2.2 = 0) : gOf (wid b id log) c s l = gOf b c s l := by
  have g1 := gOf_zero h
  have g2 := gOf_zero h2
  have e : featsO (wid b id log) c s = featsO b c s := by
    obtain ⟨_, a2, _, a4, _⟩ := chkG_zero g1
    obtain ⟨_, b2, _, b4, _⟩ := chkG_zero g2
    unfold featsO
    rw [if_pos ⟨b2, b4⟩, if_pos ⟨a2, a4⟩]
    rfl
  unfold gOf
  rw [if_pos g1, if_pos g2, e]
theorem gradeL_err (f : List (ByteArray × Int)) : ∀ (l : Rls) (i : Nat), (Rl.gradeL f i l).2.2 ≠ 0 → (Rl.gradeL f i l).1 = 0
  | [], i, h => absurd rfl h
  | r :: l, i, h => by
    unfold Rl.gradeL at h ⊢
    split
    · split
      · rename_i h1 h2
        rw [if_pos h1, if_pos h2] at h
        exact absurd rfl h
      · rename_i h1 h2
        rw [if_pos h1, if_neg h2] at h
        exact gradeL_err f l (i + 1) h
    · rfl
theorem gOf_err {b : Bd} {c : List Pd} {s : Spc} {l : Rls} (h : (gOf b c s l).2.2 ≠ 0) : (gOf b c s l).1 = 0 := by
  unfold gOf at h ⊢
  split
  · rename_i g
    rw [if_pos g] at h
    exact gradeL_err _ l 0 h
  · rfl
theorem gradeL_at (f : List (ByteArray × Int)) : ∀ (l : Rls) (i k : Nat), (Rl.gradeL f i l).2.2 = 0 → (Rl.gradeL f i l).2.1 = ((i + k : Nat) : Int) → k < l.length ∧ (∃ e, l[k]? = some ((Rl.gradeL f i l).1, e)) ∧ Rl.gradeL f i (l.take (k + 1)) = Rl.gradeL f i l ∧ Rl.gradeL f i (l.take k) = (0, -1, 0)
  | [], i, k, _, h => by simp only [Rl.gradeL] at h; omega
  | r :: l, i, k, h0, h => by
    by_cases c1 : (Rl.val f 8 r.2).2 = 0
    · by_cases c2 : (Rl.val f 8 r.2).1 = 1
      · have e : Rl.gradeL f i (r :: l) = (r.1, (i : Int), 0) := by rw [Rl.gradeL, if_pos c1, if_pos c2]
        rw [e] at h ⊢
        have hk : k = 0 := by simp only at h; omega
        subst hk
        refine ⟨by simp, ⟨r.2, rfl⟩, ?_, rfl⟩
        simp only [Nat.zero_add, List.take_succ_cons, List.take_zero]
        rw [Rl.gradeL, if_pos c1, if_pos c2]
      · have e : Rl.gradeL f i (r :: l) = Rl.gradeL f (i + 1) l := by rw [Rl.gradeL, if_pos c1, if_neg c2]
        rw [e] at h h0 ⊢
        cases k with
        | zero =>
          rcases gradeL_idx f l (i + 1) h0 with ⟨h', _⟩ | ⟨j, _, h'⟩ <;> rw [h'] at h <;> omega
        | succ k =>
          obtain ⟨q1, q2, q3, q4⟩ := gradeL_at f l (i + 1) k h0 (by rw [h]; congr 1; omega)
          refine ⟨by simp; omega, q2, ?_, ?_⟩
          · rw [List.take_succ_cons, Rl.gradeL, if_pos c1, if_neg c2]; exact q3
          · rw [List.take_succ_cons, Rl.gradeL, if_pos c1, if_neg c2]; exact q4
    · have e : Rl.gradeL f i (r :: l) = (0, 0, (Rl.val f 8 r.2).2) := by rw [Rl.gradeL, if_neg c1]
      rw [e] at h0
      exact absurd h0 c1
theorem rulesE_take (ns : List ByteArray) : ∀ (l : Rls) (k : Nat), Rl.rulesE ns l = 0 → Rl.rulesE ns (l.take k) = 0
  | [], k, _ => by simp [Rl.rulesE]
  | r :: l, 0, _ => by simp [Rl.rulesE]
  | r :: l, k + 1, h => by
    have ih := fun h' => rulesE_take ns l k h'
    rw [List.take_succ_cons]
    unfold Rl.rulesE at h ⊢
    repeat' split at h
    all_goals simp_all
theorem chkG_take {b : Bd} {c : List Pd} {s : Spc} {l : Rls} (k : Nat) (h : chkG b c s l = 0) : chkG b c s (l.take k) = 0 := by
  obtain ⟨a1, a2, a3, a4, a5⟩ := chkG_zero h
  have : Rl.checkRulesM nmsF (l.take k) = 0 := by
    unfold Rl.checkRulesM at a5 ⊢
    split at a5
    · cases a5
    · rw [if_neg (by rw [List.length_take]; omega)]
      exact rulesE_take nmsF l k a5
  unfold chkG
  rw [if_pos a1, if_pos a2, if_pos a3, if_pos a4, this]
theorem gOf_at {b : Bd} {c : List Pd} {s : Spc} {l : Rls} (k : Nat) (h : (gOf b c s l).2.2 = 0) (hk : (gOf b c s l).2.1 = (k : Int)) :
    (∃ e, l[k]? = some ((gOf b c s l).1, e)) ∧ gOf b c s (l.take (k + 1)) = gOf b c s l ∧ gOf b c s (l.take k) = (0, -1, 0) := by
  have g := gOf_zero h
  have e : gOf b c s l = Rl.gradeL (featsO b c s) 0 l := by unfold gOf; rw [if_pos g]
  rw [e] at h hk ⊢
  obtain ⟨_, q2, q3, q4⟩ := gradeL_at _ l 0 k h (by rw [hk]; simp)
  refine ⟨q2, ?_, ?_⟩
  · unfold gOf; rw [if_pos (chkG_take _ g)]; exact q3
  · unfold gOf; rw [if_pos (chkG_take _ g)]; exact q4
theorem first_law (g : Gg) (id log : ByteArray) (hf : ∀ x ∈ g.rs, Rl.Fits x.2) : F_law45_GradingFirstY [.agg (eGg g), S id, S log] = some (B true) := by
  rw [F_law45_GradingFirstY_eq]
  have hs := lsmall_run g hf
  simp at hs
  cases h1 : smallG g
  · simp [hs, h1]
  by_cases i1 : 100 < IntKind.i64.wrap ((id.size : Int) + log.size)
  · simp [hs, h1, i1]
  have hp := small_of h1
  have hl := hp.rs
  have o1 := gof_run g.b g.ps g.s g.rs (by omega) hf
  by_cases he : (gOf g.b g.ps g.s g.rs).2.2 = 0
  · rcases gOf_idx he with ⟨e1, e2⟩ | ⟨k, hk, ek⟩
    · rw [he, e1, e2] at o1
      simp at o1
      simp [hs, h1, i1, o1]
    · obtain ⟨⟨ee, q2⟩, q3, q4⟩ := gOf_at k he ek
      have ht : ∀ j, (g.rs.take j).length ≤ 1000 := fun j => by rw [List.length_take]; omega
      have o2 := gof_run g.b g.ps g.s (g.rs.take (k + 1)) (ht _) (fun x hx => hf x (List.mem_of_mem_take hx))
      have o3 := gof_run g.b g.ps g.s (g.rs.take k) (ht _) (fun x hx => hf x (List.mem_of_mem_take hx))
      have o4 := gof_run (wid g.b id log) g.ps g.s g.rs (by omega) hf
      have hw4 := gOf_wid g.b id log g.ps g.s g.rs he
      rw [q3] at o2
      rw [q4] at o3
      rw [he, ek] at o1 o2
      generalize gOf (wid g.b id log) g.ps g.s g.rs = t4 at *
      generalize gOf g.b g.ps g.s g.rs = t at *
      obtain ⟨t1, t2, t3⟩ := t
      obtain ⟨u1, u2, u3⟩ := t4
      simp only at he ek hw4
      subst he ek
      have k0 : ¬ (k : Int) < 0 := by omega
      have k1 : (k : Int) < g.rs.length := by omega
      have k2 : ¬ g.rs.length ≤ k := by omega
      have hw := wrapN (n := k) (by omega)
      have k3 : (0 : Int) ≤ (k : Int) + 1 := by omega
      have k4 : (k : Int) + 1 ≤ g.rs.length := by omega
      have k5 : ((k : Int) + 1).toNat = k + 1 := by omega
      have k6 : (k : Int) ≤ g.rs.length := by omega
      have k7 : (0 : Int) ≤ (k : Int) := by omega
      have q5 : ∀ h : k < g.rs.length, (g.rs[k]'h).1 = t1 := fun h => by rw [(List.getElem?_eq_some_iff.1 q2).2]
      by_cases hu : u3 = 0
      · have := hw4 hu
        simp only [Prod.mk.injEq] at this
        obtain ⟨rfl, rfl, rfl⟩ := this
        simp [wid] at o1 o2 o3 o4
        simp [hs, h1, i1, o1, o2, o3, o4, q2, q5, hw, k0, k1, k2, k3, k4, k5, k6, k7, hk]
      · simp [wid] at o1 o2 o3 o4
        simp [hs, h1, i1, o1, o2, o3, o4, q2, q5, hw, k0, k1, k2, k3, k4, k5, k6, k7, hk, hu]
  · have e0 := gOf_err he
    rw [e0] at o1
    generalize (gOf g.b g.ps g.s g.rs).2.1 = j at *
    generalize (gOf g.b g.ps g.s g.rs).2.2 = e at *
    simp at o1
    simp [hs, h1, i1, o1, he]
end Go.Proofs.YtldekjlihfidlaaGreatDoor
namespace Go.Proofs.YtldekjlihfidlaaGreatDoor
set_option linter.unusedSimpArgs false
set_option linter.unusedVariables false
open Go Go.Abs
set_option maxRecDepth 100000
structure okGg (g : Gg) : Prop where
  d : g.b.dfs.length ≤ 9223372036854775807
  ps : g.ps.length ≤ 9223372036854775807
  rs : g.rs.length ≤ 9223372036854775807
  fit : ∀ x ∈ g.rs, Rl.Fits x.2
/-- What is known of a product. -/
def okPd (p : Pd) : Prop := p.lens.length ≤ 9223372036854775807 ∧ p.prs.length ≤ 9223372036854775807
theorem tyDfc {n : Nat} {cs : List D} (h : TyC Tryz.prog n 82 cs) : ∃ x : Dfc, cs = eDf x ∧ True := by
  obtain ⟨hl, m, h⟩ := TyC.struct Tryz.underlying82 h
  rw [co82] at hl
  match cs, hl with
  | [y0, y1, y2, y3, y4, y5, y6], _ =>
    simp at h
    obtain ⟨h_0, h_1⟩ := h
    obtain ⟨a0, e0, b0⟩ := tyInt h_0
    obtain ⟨_, _, h_1⟩ := TyC.struct Tryz.underlying25 h_1
    simp at h_1
    obtain ⟨h_1_0, h_1_1, h_1_2⟩ := h_1
    obtain ⟨_, _, h_1_0⟩ := TyC.struct Tryz.underlying23 h_1_0
    simp at h_1_0
    obtain ⟨h_1_0_0, h_1_0_1⟩ := h_1_0
    obtain ⟨a1, e1, b1⟩ := tyInt h_1_0_0
    obtain ⟨a2, e2, b2⟩ := tyInt h_1_0_1
    obtain ⟨_, _, h_1_1⟩ := TyC.struct Tryz.underlying23 h_1_1
    simp at h_1_1
    obtain ⟨h_1_1_0, h_1_1_1⟩ := h_1_1
    obtain ⟨a3, e3, b3⟩ := tyInt h_1_1_0
    obtain ⟨a4, e4, b4⟩ := tyInt h_1_1_1
    obtain ⟨_, _, h_1_2⟩ := TyC.struct Tryz.underlying23 h_1_2
    simp at h_1_2
    obtain ⟨h_1_2_0, h_1_2_1⟩ := h_1_2
    obtain ⟨a5, e5, b5⟩ := tyInt h_1_2_0
    obtain ⟨a6, e6, b6⟩ := tyInt h_1_2_1
    injection e0 with e0; injection e1 with e1; injection e2 with e2; injection e3 with e3; injection e4 with e4; injection e5 with e5; injection e6 with e6
    exact ⟨⟨a0, a1, a2, a3, a4, a5, a6⟩, by rw [e0, e1, e2, e3, e4, e5, e6]; rfl, trivial⟩
theorem tyPd {n : Nat} {cs : List D} (h : TyC Tryz.prog n 57 cs) : ∃ x : Pd, cs = ePd x ∧ True := by
  obtain ⟨hl, m, h⟩ := TyC.struct Tryz.underlying57 h
  rw [co57] at hl
  match cs, hl with
  | [y0, y1, y2, y3, y4, y5, y6], _ =>
    simp at h
    obtain ⟨h_0, h_1, h_2, h_3, h_4, h_5, h_6⟩ := h
    obtain ⟨a0, e0, b0⟩ := TyC.string Tryz.underlying9 h_0
    obtain ⟨a1, e1, b1⟩ := tyInt h_1
    obtain ⟨a2, e2, b2⟩ := tyInt h_2
    obtain ⟨a3, e3, b3⟩ := tyInt h_3
    obtain ⟨a4, e4, b4⟩ := tyInt h_4
    obtain ⟨s5, m5, e5, l5, x5'⟩ := TyC.slice Tryz.underlying53 h_5
    obtain ⟨a5, rfl, b5⟩ := rows_of s5 (fun x hx' => tyInt (x5' x hx'))
    obtain ⟨s6, m6, e6, l6, x6'⟩ := TyC.slice Tryz.underlying53 h_6
    obtain ⟨a6, rfl, b6⟩ := rows_of s6 (fun x hx' => tyInt (x6' x hx'))
    injection e0 with e0; injection e1 with e1; injection e2 with e2; injection e3 with e3; injection e4 with e4; injection e5 with e5; injection e6 with e6
    exact ⟨⟨a0, a1, a2, a3, a4, a5, a6⟩, by rw [e0, e1, e2, e3, e4, e5, e6]; rfl, trivial⟩
theorem tyBd {n : Nat} {cs : List D} (h : TyC Tryz.prog n 30 cs) : ∃ x : Bd, cs = eBd x ∧ True := by
  obtain ⟨hl, m, h⟩ := TyC.struct Tryz.underlying30 h
  rw [co30] at hl
  match cs, hl with
  | [y0, y1, y2, y3, y4, y5, y6, y7, y8, y9, y10, y11, y12, y13, y14, y15, y16, y17], _ =>
    simp at h
    obtain ⟨h_0, h_1, h_2, h_3, h_4, h_5, h_6, h_7, h_8, h_9, h_10⟩ := h
    obtain ⟨a0, e0, b0⟩ := TyC.string Tryz.underlying9 h_0
    obtain ⟨a1, e1, b1⟩ := TyC.string Tryz.underlying9 h_1
    obtain ⟨a2, e2, b2⟩ := TyC.string Tryz.underlying9 h_2
    obtain ⟨a3, e3, b3⟩ := tyInt h_3
    obtain ⟨_, _, h_4⟩ := TyC.struct Tryz.underlying25 h_4
    simp at h_4
    obtain ⟨h_4_0, h_4_1, h_4_2⟩ := h_4
    obtain ⟨_, _, h_4_0⟩ := TyC.struct Tryz.underlying23 h_4_0
    simp at h_4_0
    obtain ⟨h_4_0_0, h_4_0_1⟩ := h_4_0
    obtain ⟨a4, e4, b4⟩ := tyInt h_4_0_0
    obtain ⟨a5, e5, b5⟩ := tyInt h_4_0_1
    obtain ⟨_, _, h_4_1⟩ := TyC.struct Tryz.underlying23 h_4_1
    simp at h_4_1
    obtain ⟨h_4_1_0, h_4_1_1⟩ := h_4_1
    obtain ⟨a6, e6, b6⟩ := tyInt h_4_1_0
    obtain ⟨a7, e7, b7⟩ := tyInt h_4_1_1
    obtain ⟨_, _, h_4_2⟩ := TyC.struct Tryz.underlying23 h_4_2
    simp at h_4_2
    obtain ⟨h_4_2_0, h_4_2_1⟩ := h_4_2
    obtain ⟨a8, e8, b8⟩ := tyInt h_4_2_0
    obtain ⟨a9, e9, b9⟩ := tyInt h_4_2_1
    obtain ⟨a10, e10, b10⟩ := tyInt h_5
    obtain ⟨s11, m11, e11, l11, x11'⟩ := TyC.slice Tryz.underlying26 h_6
    obtain ⟨a11, rfl, b11⟩ := rows_of s11 (fun x hx' => tyDfc (x11' x hx'))
    obtain ⟨a12, e12, b12⟩ := tyInt h_7
    obtain ⟨_, _, h_8⟩ := TyC.struct Tryz.underlying28 h_8
    simp at h_8
    obtain ⟨h_8_0, h_8_1, h_8_2⟩ := h_8
    obtain ⟨a13, e13, b13⟩ := tyInt h_8_0
    obtain ⟨a14, e14, b14⟩ := tyInt h_8_1
    obtain ⟨a15, e15, b15⟩ := tyInt h_8_2
    obtain ⟨a16, e16⟩ := TyC.bool Tryz.underlying4 h_9
    obtain ⟨a17, e17, b17⟩ := tyInt h_10
    injection e0 with e0; injection e1 with e1; injection e2 with e2; injection e3 with e3; injection e4 with e4; injection e5 with e5; injection e6 with e6; injection e7 with e7; injection e8 with e8; injection e9 with e9; injection e10 with e10; injection e11 with e11; injection e12 with e12; injection e13 with e13; injection e14 with e14; injection e15 with e15; injection e16 with e16; injection e17 with e17
    exact ⟨⟨a0, a1, a2, a3, a4, a5, a6, a7, a8, a9, a10, a11, a12, ⟨a13, a14, a15⟩, a16, a17⟩, by rw [e0, e1, e2, e3, e4, e5, e6, e7, e8, e9, e10, e11, e12, e13, e14, e15, e16, e17]; rfl, trivial⟩
theorem tyGg {d : D} (h : TyV Tryz.prog 36 d) : ∃ x : Gg, d = .agg (eGg x) ∧ okGg x := by
  obtain ⟨n, cs, rfl, hc⟩ := TyV.agg ag36 h; clear h
  obtain ⟨hl, m, h⟩ := TyC.struct Tryz.underlying36 hc
  rw [co36] at hl
  match cs, hl with
  | (y0 :: y1 :: y2 :: y3 :: y4 :: y5 :: y6 :: y7 :: y8 :: y9 :: y10 :: y11 :: y12 :: y13 :: y14 :: y15 :: y16 :: y17 :: y18 :: y19 :: y20 :: y21 :: y22 :: y23 :: y24 :: y25 :: y26 :: y27 :: y28 :: y29 :: y30 :: y31 :: y32 :: []), _ =>
    simp at h
    obtain ⟨h_0, h_1, h_2, h_3⟩ := h
    obtain ⟨_, _, h_0⟩ := TyC.struct Tryz.underlying30 h_0
    simp at h_0
    obtain ⟨h_0_0, h_0_1, h_0_2, h_0_3, h_0_4, h_0_5, h_0_6, h_0_7, h_0_8, h_0_9, h_0_10⟩ := h_0
    obtain ⟨a0, e0, b0⟩ := TyC.string Tryz.underlying9 h_0_0
    obtain ⟨a1, e1, b1⟩ := TyC.string Tryz.underlying9 h_0_1
    obtain ⟨a2, e2, b2⟩ := TyC.string Tryz.underlying9 h_0_2
    obtain ⟨a3, e3, b3⟩ := tyInt h_0_3
    obtain ⟨_, _, h_0_4⟩ := TyC.struct Tryz.underlying25 h_0_4
    simp at h_0_4
    obtain ⟨h_0_4_0, h_0_4_1, h_0_4_2⟩ := h_0_4
    obtain ⟨_, _, h_0_4_0⟩ := TyC.struct Tryz.underlying23 h_0_4_0
    simp at h_0_4_0
    obtain ⟨h_0_4_0_0, h_0_4_0_1⟩ := h_0_4_0
    obtain ⟨a4, e4, b4⟩ := tyInt h_0_4_0_0
    obtain ⟨a5, e5, b5⟩ := tyInt h_0_4_0_1
    obtain ⟨_, _, h_0_4_1⟩ := TyC.struct Tryz.underlying23 h_0_4_1
    simp at h_0_4_1
    obtain ⟨h_0_4_1_0, h_0_4_1_1⟩ := h_0_4_1
    obtain ⟨a6, e6, b6⟩ := tyInt h_0_4_1_0
    obtain ⟨a7, e7, b7⟩ := tyInt h_0_4_1_1
    obtain ⟨_, _, h_0_4_2⟩ := TyC.struct Tryz.underlying23 h_0_4_2
    simp at h_0_4_2
    obtain ⟨h_0_4_2_0, h_0_4_2_1⟩ := h_0_4_2
    obtain ⟨a8, e8, b8⟩ := tyInt h_0_4_2_0
    obtain ⟨a9, e9, b9⟩ := tyInt h_0_4_2_1
    obtain ⟨a10, e10, b10⟩ := tyInt h_0_5
    obtain ⟨s11, m11, e11, l11, x11'⟩ := TyC.slice Tryz.underlying26 h_0_6
    obtain ⟨a11, rfl, b11⟩ := rows_of s11 (fun x hx' => tyDfc (x11' x hx'))
    obtain ⟨a12, e12, b12⟩ := tyInt h_0_7
    obtain ⟨_, _, h_0_8⟩ := TyC.struct Tryz.underlying28 h_0_8
    simp at h_0_8
    obtain ⟨h_0_8_0, h_0_8_1, h_0_8_2⟩ := h_0_8
    obtain ⟨a13, e13, b13⟩ := tyInt h_0_8_0
    obtain ⟨a14, e14, b14⟩ := tyInt h_0_8_1
    obtain ⟨a15, e15, b15⟩ := tyInt h_0_8_2
    obtain ⟨a16, e16⟩ := TyC.bool Tryz.underlying4 h_0_9
    obtain ⟨a17, e17, b17⟩ := tyInt h_0_10
    obtain ⟨s18, m18, e18, l18, x18'⟩ := TyC.slice Tryz.underlying31 h_1
    obtain ⟨a18, rfl, b18⟩ := rows_of s18 (fun x hx' => tyPd (x18' x hx'))
    obtain ⟨_, _, h_2⟩ := TyC.struct Tryz.underlying33 h_2
    simp at h_2
    obtain ⟨h_2_0, h_2_1, h_2_2, h_2_3, h_2_4, h_2_5, h_2_6, h_2_7, h_2_8, h_2_9, h_2_10, h_2_11, h_2_12⟩ := h_2
    obtain ⟨a19, e19, b19⟩ := TyC.string Tryz.underlying9 h_2_0
    obtain ⟨a20, e20, b20⟩ := tyInt h_2_1
    obtain ⟨a21, e21, b21⟩ := tyInt h_2_2
    obtain ⟨a22, e22, b22⟩ := tyInt h_2_3
    obtain ⟨a23, e23, b23⟩ := tyInt h_2_4
    obtain ⟨a24, e24, b24⟩ := tyInt h_2_5
    obtain ⟨a25, e25, b25⟩ := tyInt h_2_6
    obtain ⟨a26, e26, b26⟩ := tyInt h_2_7
    obtain ⟨a27, e27, b27⟩ := tyInt h_2_8
    obtain ⟨a28, e28, b28⟩ := tyInt h_2_9
    obtain ⟨a29, e29, b29⟩ := tyInt h_2_10
    obtain ⟨a30, e30, b30⟩ := tyInt h_2_11
    obtain ⟨a31, e31, b31⟩ := tyInt h_2_12
    obtain ⟨s32, m32, e32, l32, x32'⟩ := TyC.slice Tryz.underlying34 h_3
    obtain ⟨a32, rfl, b32⟩ := rows_of s32 (fun x hx' => Rl.tyRule (x32' x hx'))
    injection e0 with e0; injection e1 with e1; injection e2 with e2; injection e3 with e3; injection e4 with e4; injection e5 with e5; injection e6 with e6; injection e7 with e7; injection e8 with e8; injection e9 with e9; injection e10 with e10; injection e11 with e11; injection e12 with e12; injection e13 with e13; injection e14 with e14; injection e15 with e15; injection e16 with e16; injection e17 with e17; injection e18 with e18; injection e19 with e19; injection e20 with e20; injection e21 with e21; injection e22 with e22; injection e23 with e23; injection e24 with e24; injection e25 with e25; injection e26 with e26; injection e27 with e27; injection e28 with e28; injection e29 with e29; injection e30 with e30; injection e31 with e31; injection e32 with e32
    exact ⟨⟨⟨a0, a1, a2, a3, a4, a5, a6, a7, a8, a9, a10, a11, a12, ⟨a13, a14, a15⟩, a16, a17⟩, a18, ⟨a19, a20, a21, a22, a23, a24, a25, a26, a27, a28, a29, a30, a31⟩, a32⟩, by rw [e0, e1, e2, e3, e4, e5, e6, e7, e8, e9, e10, e11, e12, e13, e14, e15, e16, e17, e18, e19, e20, e21, e22, e23, e24, e25, e26, e27, e28, e29, e30, e31, e32]; rfl, ⟨by simpa using l11, by simpa using l18, by simpa using l32, fun x hx => (b32 x hx).1⟩⟩
theorem tyStr {d : D} (h : TyV Tryz.prog 9 d) : ∃ s : ByteArray, d = S s := by
  obtain ⟨n, h⟩ := TyV.cell ag9 h
  obtain ⟨s, e, _⟩ := TyC.string Tryz.underlying9 h
  injection e with e
  exact ⟨s, e⟩
theorem tyInt' {d : D} (h : TyV Tryz.prog 3 d) : ∃ n : Int, d = I n ∧ i64 n := by
  obtain ⟨n, h⟩ := TyV.cell ag3 h
  obtain ⟨s, e, b⟩ := tyInt h
  injection e with e
  exact ⟨s, e, b⟩
theorem tyBds {d : D} (h : TyV Tryz.prog 50 d) : ∃ l : List Bd, d = .sl (l.map eBd) ∧ l.length ≤ 9223372036854775807 := by
  obtain ⟨n, h⟩ := TyV.cell ag50 h
  obtain ⟨es, m, e, hl, hx⟩ := TyC.slice Tryz.underlying50 h
  obtain ⟨l, rfl, _⟩ := rows_of es (fun x hx' => tyBd (hx x hx'))
  injection e with e
  exact ⟨l, e, by simpa using hl⟩
end Go.Proofs.YtldekjlihfidlaaGreatDoor
namespace Go.Proofs.YtldekjlihfidlaaGreatDoor
set_option linter.unusedSimpArgs false
set_option linter.unusedVariables false
open Go Go.Abs
set_option maxRecDepth 100000
theorem gradingOf_abs (xs : List D) (h : TyArgs Tryz.prog Tryz.f3.params.toList xs) : Contract Tryz.prog gl 3 xs (.x (.bool true)) := by
  simp [TyArgs] at h
  obtain ⟨d, rfl, h1⟩ := h
  obtain ⟨g, rfl, ok⟩ := tyGg h1
  exact C_law45_GradingOfY _ _ (of_law g ok.fit)
theorem gradingFirst_abs (xs : List D) (h : TyArgs Tryz.prog Tryz.f4.params.toList xs) : Contract Tryz.prog gl 4 xs (.x (.bool true)) := by
  simp [TyArgs] at h
  obtain ⟨d, r, rfl, h1, d2, r2, rfl, h2, d3, rfl, h3⟩ := h
  obtain ⟨g, rfl, ok⟩ := tyGg h1
  obtain ⟨id, rfl⟩ := tyStr h2
  obtain ⟨log, rfl⟩ := tyStr h3
  exact C_law45_GradingFirstY _ _ (first_law g id log ok.fit)
theorem gradingAgain_abs (xs : List D) (h : TyArgs Tryz.prog Tryz.f5.params.toList xs) : Contract Tryz.prog gl 5 xs (.x (.bool true)) := by
  simp [TyArgs] at h
  obtain ⟨d, r, rfl, h1, d2, r2, rfl, h2, d3, rfl, h3⟩ := h
  obtain ⟨a, rfl, _⟩ := tyInt' h1
  obtain ⟨b, rfl, _⟩ := tyInt' h2
  obtain ⟨l, rfl, hl⟩ := tyBds h3
  exact C_law45_GradingAgainY _ _ (again_law a b l hl)
end Go.Proofs.YtldekjlihfidlaaGreatDoor
namespace Go.Proofs.YtldekjlihfidlaaGreatDoor
set_option linter.unusedSimpArgs false
set_option linter.unusedVariables false
open Go Go.Abs Go.ChangeShapes Go.WideShapes Go.ChangeAt Go.WideMaps Go.WideElems Go.RowKit
set_option maxRecDepth 100000
theorem door_met (os : Os) (args : Array Value) : laidMetH Tryz.prog [("math/bits.deBruijn32tab", Rows.laid_math_bits_deBruijn32tab), ("math/bits.deBruijn64tab", Rows.laid_math_bits_deBruijn64tab), ("internal/strconv.uint64pow10", Rows.laid_internal_strconv_uint64pow10)] ((World.doorLaid Tryz.prog 400 os).forCall (fun _ _ => 0) ⟨#[], args, []⟩).memory :=
  laidMetH_of_parts3 (fuel := 8) (laidMet_of_run' 8 (by kernel_rfl) (by kernel_rfl)) (by kernel_rfl) (by kernel_rfl)
theorem tPow : (Tryz.prog.globals[0]?).map (·.type) = some 200 := by kernel_rfl
theorem globs_of {W : World} (h : laidMetH Tryz.prog [("math/bits.deBruijn32tab", Rows.laid_math_bits_deBruijn32tab), ("math/bits.deBruijn64tab", Rows.laid_math_bits_deBruijn64tab), ("internal/strconv.uint64pow10", Rows.laid_internal_strconv_uint64pow10)] W) : Globs gl W (fun _ => True) (fun _ => False) := by
  rw [MakeChecks.laidMetH_plain _ _ _ (by kernel_rfl)] at h
  have hp : laidMet Tryz.prog (("internal/strconv.uint64pow10", Lib.tabData .u64 Lib.pow10Tab) :: []) W := by
    have e : (Rows.laid_internal_strconv_uint64pow10 : DataW Unit) = Lib.tabData .u64 Lib.pow10Tab := by kernel_rfl
    rw [← e]
    exact h.tail.tail
  have t : Lib.TabIs Tryz.prog W "internal/strconv.uint64pow10" .u64 Lib.pow10Tab :=
    Lib.tabIs_of_head gPow tPow Tryz.underlying200 Tryz.underlying117 (by kernel_rfl) (by kernel_rfl) hp
  intro g cs hg
  simp only [gl] at hg
  split at hg
  · rename_i e0
    subst e0
    injection hg with hg
    subst hg
    have hv := t
    unfold Lib.TabIs World.var? at hv
    simp only [gPow, Option.bind_some] at hv
    split at hv
    · rename_i o ty m hh
      injection hv with hv
      have hlt : 0 < W.heap.size := (Array.getElem?_eq_some_iff.1 hh).1
      have hsz : o.size = powD.length := by rw [hv]; simp [powD]
      have hcell : ∀ j (hj : j < powD.length), W.cell? ((Addr.mk 0 0 none).add j) = some (.int .u64 (Lib.pow10Tab.getD j 0)) := by
        intro j hj
        have e : (Addr.mk 0 0 none).add j = ⟨0, j, none⟩ := by simp [Addr.add]; exact fun h => h.symm
        rw [e]
        exact t.cell gPow j (by simpa [powD] using hj)
      refine ⟨.elt trivial hlt (fun d hd => ?_) (fun j hj => ⟨_, hcell j hj, rfl⟩) (fun j d u hd hu => ?_), trivial, hlt, ⟨o, ty, m, hh, hsz⟩⟩
      · simp only [powD, List.mem_map] at hd
        obtain ⟨z, _, rfl⟩ := hd
        rfl
      · have hj : j < powD.length := (List.getElem?_eq_some_iff.1 hd).1
        rw [hcell j hj] at hu
        cases hu
        simp only [powD, List.getElem?_map, Option.map_eq_some_iff] at hd
        obtain ⟨z, hz, rfl⟩ := hd
        rw [List.getD_eq_getElem?_getD, hz]
        exact .x _
    · cases hv
  · cases hg
end Go.Proofs.YtldekjlihfidlaaGreatDoor
