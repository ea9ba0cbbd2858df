/-
  The features of a board, run abstractly.
-/
import Derived.Test.YtjhlidaikegelaaGreatFtS
namespace Go.Proofs.YtjhlidaikegelaaGreat
set_option linter.unusedSimpArgs false
set_option linter.unusedVariables false
open Go Go.Abs
set_option maxHeartbeats 8000000
set_option maxRecDepth 100000
/-- The names of the features. -/
def nThick : ByteArray := ⟨#[116, 104, 105, 99, 107]⟩
def nWidth : ByteArray := ⟨#[119, 105, 100, 116, 104]⟩
def nLength : ByteArray := ⟨#[108, 101, 110, 103, 116, 104]⟩
def nKnots : ByteArray := ⟨#[107, 110, 111, 116, 115]⟩
def nDead : ByteArray := ⟨#[100, 101, 97, 100]⟩
def nRot : ByteArray := ⟨#[114, 111, 116]⟩
def nCracks : ByteArray := ⟨#[99, 114, 97, 99, 107, 115]⟩
def nResin : ByteArray := ⟨#[114, 101, 115, 105, 110]⟩
def nInsects : ByteArray := ⟨#[105, 110, 115, 101, 99, 116, 115]⟩
def nMaxknot : ByteArray := ⟨#[109, 97, 120, 107, 110, 111, 116]⟩
def nMaxdead : ByteArray := ⟨#[109, 97, 120, 100, 101, 97, 100]⟩
def nWorst : ByteArray := ⟨#[119, 111, 114, 115, 116]⟩
def nWane : ByteArray := ⟨#[119, 97, 110, 101]⟩
def nChecks : ByteArray := ⟨#[99, 104, 101, 99, 107, 115]⟩
def nMoist : ByteArray := ⟨#[109, 111, 105, 115, 116]⟩
def nGradient : ByteArray := ⟨#[103, 114, 97, 100, 105, 101, 110, 116]⟩
def nUnder : ByteArray := ⟨#[117, 110, 100, 101, 114]⟩
def nStiff : ByteArray := ⟨#[115, 116, 105, 102, 102]⟩
def nmsF : List ByteArray := [nThick, nWidth, nLength, nKnots, nDead, nRot, nCracks, nResin, nInsects, nMaxknot, nMaxdead, nWorst, nWane, nChecks, nMoist, nGradient, nUnder, nStiff]
/-- A feature. -/
def eFt (x : ByteArray × Int) : List D := [S x.1, I x.2]
@[simp] theorem eFt_eq (x : ByteArray × Int) : eFt x = [S x.1, I x.2] := rfl
def eNm (s : ByteArray) : List D := [S s]
@[simp] theorem eNm_eq (s : ByteArray) : eNm s = [S s] := rfl
def feats (b : Bd) (p : Pd) (w : Spc) : List (ByteArray × Int) :=
  [(nThick, p.thick), (nWidth, p.width), (nLength, lenN b), (nKnots, cntD 1 0 b.dfs), (nDead, cntD 2 0 b.dfs), (nRot, cntD 3 0 b.dfs), (nCracks, cntD 4 0 b.dfs), (nResin, cntD 5 0 b.dfs), (nInsects, cntD 6 0 b.dfs), (nMaxknot, lrgD 1 0 b.dfs), (nMaxdead, lrgD 2 0 b.dfs), (nWorst, worstD b.dfs), (nWane, b.wane), (nChecks, cracks b.cel w), (nMoist, mean b.cel), (nGradient, grad b.cel), (nUnder, (if underB b p w = true then 1 else 0)), (nStiff, stiffN b w)]
theorem names_run : F_feature_Names [] = some (.own true (nmsF.map eNm)) := by
  rw [F_feature_Names_eq]
  simp [nmsF, nThick, nWidth, nLength, nKnots, nDead, nRot, nCracks, nResin, nInsects, nMaxknot, nMaxdead, nWorst, nWane, nChecks, nMoist, nGradient, nUnder, nStiff]
theorem add_run (k : Nat) (nm : ByteArray) (hk : nmsF[k]? = some nm) (fl : Bool) (es : List (List D)) (hl : es.length = k) (n : Int) :
    E_feature_Of_1 [(1000, .box 39 [.row 110000]), (110000, .row 51 2 fl es), (1001, .box 48 [.sl (nmsF.map eNm)])] [I n, .ptr 1000 0, .ptr 1001 0] =
      some (.tup [], [(1000, .box 39 [.row 110000]), (1001, .box 48 [.sl (nmsF.map eNm)]), (110000, .row 51 2 fl (es ++ [[S nm, I n]]))]) := by
  rw [E_feature_Of_1_eq]
  have h1 : (nmsF.map eNm)[es.length]? = some [S nm] := by rw [List.getElem?_map, hl, hk]; rfl
  have h2 : es.length < nmsF.length := by
    have := (List.getElem?_eq_some_iff.1 hk).1
    omega
  have h3 : (es.length : Int) < nmsF.length := by omega
  have h4 : nmsF.length = 18 := rfl
  have h5 : (es.length + 1) * 25 ≤ 140737488355328 := by omega
  simp [h1, h3, h5]
theorem checkB_zero {b : Bd} {c : List Pd} (h : checkB b c = 0) : ∃ p, c[b.prod.toNat]? = some p ∧ 0 ≤ b.prod ∧ checkPd c = 0 ∧ restE b p = 0 := by
  unfold checkB at h
  by_cases h1 : checkPd c = 0
  · rw [if_pos h1] at h
    split at h
    · split at h
      · omega
      · split at h
        · rename_i p hp
          exact ⟨p, hp, by omega, h1, h⟩
        · omega
    · omega
  · rw [if_neg h1] at h
    exact absurd h h1
theorem restE_zero {b : Bd} {p : Pd} (h : restE b p = 0) : boxB b = true ∧ checkDf b.dfs = 0 ∧ checkM b.cel = 0 ∧ 0 ≤ b.wane ∧ b.wane ≤ 1000 := by
  unfold restE at h
  repeat' split at h
  all_goals first | omega | skip
  all_goals simp_all
theorem checkW_zero {w : Spc} (h : checkW w = 0) : (0 ≤ w.loss ∧ w.loss ≤ 1000) ∧ (1000 ≤ w.stiff ∧ w.stiff ≤ 30000) ∧ 0 ≤ w.shrink ∧ w.shrink ≤ 200 := by
  unfold checkW at h
  repeat' split at h
  all_goals first | omega | skip
  rename_i _ h2
  simp [rangeW] at h2
  omega
theorem of_run (b : Bd) (c : List Pd) (w : Spc) (p : Pd) (hB : checkB b c = 0) (hW : checkW w = 0) (hp : c[b.prod.toNat]? = some p) :
    F_feature_Of [.agg (eBd b), .sl (c.map ePd), .agg (eS w)] = some (.own true ((feats b p w).map eFt)) := by
  rw [F_feature_Of_eq]
  have hb := bcheck_run b c
  have hw := wood_run w
  rw [hB] at hb
  rw [hW] at hw
  obtain ⟨p', hp', h0, hc0, hr⟩ := checkB_zero hB
  rw [hp] at hp'
  cases hp'
  obtain ⟨hx, hdf, hcm, _⟩ := restE_zero hr
  obtain ⟨k1, k2, k3⟩ := box_bnd hx
  obtain ⟨wl, ws, wk⟩ := checkW_zero hW
  have h6 : (c.map ePd)[b.prod.toNat]? = some (ePd p) := by rw [List.getElem?_map, hp]; rfl
  have hl := checkDf_len hdf
  have hg : ∀ d ∈ b.dfs, Rng d := fun d hd => (dfE_rng (checkDf_mem hdf d hd)).1
  have r1 := blen_run b
  have c1 := fun k => count_run b.dfs k (by omega)
  have c2 := fun k => largest_run b.dfs k (by omega) hg
  have c3 := worst_run b.dfs
  have m1 := cracks_run b.cel w
  have m2 := mean_run b.cel
  have m3 := grad_run b.cel
  have u1 := under_run b p w k1 k2 wk
  have s1 := stiff_run b w k1 k2 hcm wl ws
  have a0 := add_run 0 nThick rfl
  have a1 := add_run 1 nWidth rfl
  have a2 := add_run 2 nLength rfl
  have a3 := add_run 3 nKnots rfl
  have a4 := add_run 4 nDead rfl
  have a5 := add_run 5 nRot rfl
  have a6 := add_run 6 nCracks rfl
  have a7 := add_run 7 nResin rfl
  have a8 := add_run 8 nInsects rfl
  have a9 := add_run 9 nMaxknot rfl
  have a10 := add_run 10 nMaxdead rfl
  have a11 := add_run 11 nWorst rfl
  have a12 := add_run 12 nWane rfl
  have a13 := add_run 13 nChecks rfl
  have a14 := add_run 14 nMoist rfl
  have a15 := add_run 15 nGradient rfl
  have a16 := add_run 16 nUnder rfl
  have a17 := add_run 17 nStiff rfl
  unfold feats
  generalize lenN b = v2 at *
  generalize worstD b.dfs = v11 at *
  generalize cracks b.cel w = v13 at *
  generalize mean b.cel = v14 at *
  generalize grad b.cel = v15 at *
  generalize underB b p w = v16 at *
  generalize stiffN b w = v17 at *
  simp at hb hw r1 m1 m2 m3 u1 s1
  have hm := bigL_succ 7 (by omega)
  obtain ⟨m, hm⟩ := hm
  have S := names_run
  have h6' : ¬ b.prod < 0 := by omega
  simp [hb, hw, h0, h6, S, r1, a0, a1, a2]
  rw [hm]
  rw [L_feature_Of_succ, R_feature_Of_eq]
  simp [c1, a3]
  rw [L_feature_Of_succ, R_feature_Of_eq]
  simp [c1, a4]
  rw [L_feature_Of_succ, R_feature_Of_eq]
  simp [c1, a5]
  rw [L_feature_Of_succ, R_feature_Of_eq]
  simp [c1, a6]
  rw [L_feature_Of_succ, R_feature_Of_eq]
  simp [c1, a7]
  rw [L_feature_Of_succ, R_feature_Of_eq]
  simp [c1, a8]
  rw [L_feature_Of_succ, R_feature_Of_eq]
  simp [c2, c3, m1, m2, m3, a9, a10, a11, a12, a13, a14, a15]
  cases v16
  · simp [u1, s1, a16, a17]
  · simp [u1, s1, a16, a17]
theorem of_none (b : Bd) (c : List Pd) (w : Spc) (h : ¬ (checkB b c = 0 ∧ checkW w = 0)) : F_feature_Of [.agg (eBd b), .sl (c.map ePd), .agg (eS w)] = some (.own true []) := by
  rw [F_feature_Of_eq]
  have hb := bcheck_run b c
  have hw := wood_run w
  simp at hb hw
  by_cases h1 : checkB b c = 0
  · have h2 : ¬ checkW w = 0 := fun h2 => h ⟨h1, h2⟩
    simp [hb, hw, h1, h2]
  · simp [hb, h1]
/-- The features of a board, or none. -/
def featsO (b : Bd) (c : List Pd) (w : Spc) : List (ByteArray × Int) := if checkB b c = 0 ∧ checkW w = 0 then match c[b.prod.toNat]? with
  | some p => feats b p w
  | none => []
  else []
theorem ofO_run (b : Bd) (c : List Pd) (w : Spc) : F_feature_Of [.agg (eBd b), .sl (c.map ePd), .agg (eS w)] = some (.own true ((featsO b c w).map eFt)) := by
  unfold featsO
  by_cases h : checkB b c = 0 ∧ checkW w = 0
  · rw [if_pos h]
    obtain ⟨p, hp, _⟩ := checkB_zero h.1
    rw [hp]
    exact of_run b c w p h.1 h.2 hp
  · rw [if_neg h]
    exact of_none b c w h
/-- A feature in a list. -/
def getF (nm : ByteArray) : List (ByteArray × Int) → Int × Bool
  | [] => (0, false)
  | x :: r => if x.1 = nm then (x.2, true) else getF nm r
end Go.Proofs.YtjhlidaikegelaaGreat
