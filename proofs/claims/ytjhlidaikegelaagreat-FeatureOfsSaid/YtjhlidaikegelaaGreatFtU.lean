/-
  The examples of the chapter, run abstractly.
-/
import Derived.Test.YtjhlidaikegelaaGreatFtT
namespace Go.Proofs.YtjhlidaikegelaaGreat
set_option linter.unusedSimpArgs false
set_option linter.unusedVariables false
open Go Go.Abs
set_option maxHeartbeats 8000000
set_option maxRecDepth 100000
/-- A board, its catalog and its species. -/
structure Gd where
  b : Bd
  ps : List Pd
  s : Spc
def eGd (g : Gd) : List D := [S g.b.id, S g.b.log, S g.b.sp, I g.b.prod, I g.b.xa, I g.b.xb, I g.b.ya, I g.b.yb, I g.b.za, I g.b.zb, I g.b.vol, .sl (g.b.dfs.map eDf), I g.b.wane, I g.b.cel.s, I g.b.cel.c, I g.b.cel.st, B g.b.dried, I g.b.grade, .sl (g.ps.map ePd),
  S g.s.name, I g.s.green, I g.s.fast, I g.s.slow, I g.s.safe, I g.s.grad, I g.s.crack, I g.s.temp, I g.s.dep, I g.s.dens, I g.s.stiff, I g.s.loss, I g.s.shrink]
@[simp] theorem eGd_eq (g : Gd) : eGd g = [S g.b.id, S g.b.log, S g.b.sp, I g.b.prod, I g.b.xa, I g.b.xb, I g.b.ya, I g.b.yb, I g.b.za, I g.b.zb, I g.b.vol, .sl (g.b.dfs.map eDf), I g.b.wane, I g.b.cel.s, I g.b.cel.c, I g.b.cel.st, B g.b.dried, I g.b.grade, .sl (g.ps.map ePd),
  S g.s.name, I g.s.green, I g.s.fast, I g.s.slow, I g.s.safe, I g.s.grad, I g.s.crack, I g.s.temp, I g.s.dep, I g.s.dens, I g.s.stiff, I g.s.loss, I g.s.shrink] := rfl
def featsG (g : Gd) : List (ByteArray × Int) := featsO g.b g.ps g.s
theorem lof_run (g : Gd) : F_law42_of [.agg (eGd g)] = some (.own true ((featsG g).map eFt)) := by
  rw [F_law42_of_eq]
  have h := ofO_run g.b g.ps g.s
  unfold featsG
  simp at h
  simp [h]
theorem get_loop (l : List (ByteArray × Int)) (nm : ByteArray) (hl : l.length ≤ 1000) : ∀ (n i : Nat) (r : List (ByteArray × Int)), l.drop i = r → r.length < n →
    L_feature_Get 2 n ⟨[(0, .any), (1, S nm), (4, .any), (5, .any), (7, .any), (8, .sl (l.map eFt)), (9, I l.length), (10, I i)], []⟩ =
      if (getF nm r).2 = true then some (.ret, ⟨[(0, .any), (1, .any), (4, I (getF nm r).1), (5, B true), (7, .any), (8, .any), (9, .any), (10, .any)], []⟩)
      else some (.ex 0, ⟨[(0, .any), (1, .any), (4, .any), (5, .any), (7, .any), (8, .any), (9, .any), (10, .any)], []⟩) := by
  refine lind l _ ?_ ?_
  · intro n i hr
    rw [L_feature_Get_succ, R_feature_Get_eq]
    simp [dn hr, getF]
  · intro n i x r hr hi ih
    rw [L_feature_Get_succ, R_feature_Get_eq]
    obtain ⟨h1, h3, hr', _⟩ := dc (enc := eFt) hr
    have hw := wrapN (n := i) (by omega)
    simp at ih
    by_cases c : x.1 = nm
    · simp [h1, h3, getF, c]
    · simp [h1, h3, getF, c, hw, ih]
theorem getF_zero (nm : ByteArray) : ∀ l : List (ByteArray × Int), (getF nm l).2 = false → (getF nm l).1 = 0
  | [], _ => rfl
  | x :: r, h => by
    unfold getF at h ⊢
    split
    · rename_i c
      simp [c] at h
    · rename_i c
      rw [if_neg c] at h
      exact getF_zero nm r h
theorem get_run (l : List (ByteArray × Int)) (nm : ByteArray) (hl : l.length ≤ 1000) : F_feature_Get [.sl (l.map eFt), S nm] = some (.tup [I (getF nm l).1, B (getF nm l).2]) := by
  rw [F_feature_Get_eq]
  have ih := get_loop l nm hl bigL 0 l rfl (by have := bigL_ge; omega)
  have hz := getF_zero nm l
  simp at ih
  cases h : (getF nm l).2
  · rw [h] at ih
    simp at ih
    simp [ih, hz h]
  · rw [h] at ih
    simp at ih
    simp [ih]
theorem lget_run (l : List (ByteArray × Int)) (nm : ByteArray) (hl : l.length ≤ 1000) : F_law42_get [.sl (l.map eFt), S nm] = some (I (getF nm l).1) := by
  rw [F_law42_get_eq]
  have h := get_run l nm hl
  simp [h]
def sameF : List (ByteArray × Int) → List (ByteArray × Int) → Bool
  | [], [] => true
  | x :: r, y :: q => if x = y then sameF r q else false
  | _, _ => false
theorem sameF_iff : ∀ l m : List (ByteArray × Int), sameF l m = true ↔ l = m
  | [], [] => by simp [sameF]
  | [], y :: q => by simp [sameF]
  | x :: r, [] => by simp [sameF]
  | x :: r, y :: q => by
    unfold sameF
    by_cases h : x = y
    · simp [h, sameF_iff r q]
    · simp [h]
theorem rnames_run : F_ref42_Names [] = some (.own true (nmsF.map eNm)) := by
  rw [F_ref42_Names_eq]
  simp [nmsF, nThick, nWidth, nLength, nKnots, nDead, nRot, nCracks, nResin, nInsects, nMaxknot, nMaxdead, nWorst, nWane, nChecks, nMoist, nGradient, nUnder, nStiff]
theorem lbox_run (x z : Int) (hx : i64 (x + 10)) (hz : i64 (z + 5)) : F_law42_box [I x, I z] = some (.agg [I x, I (x + 10), I 0, I 20, I z, I (z + 5)]) := by
  rw [F_law42_box_eq]
  unfold i64 at hx hz
  have w1 : IntKind.i64.wrap (x + 10) = x + 10 := wrap64 (by omega) (by omega)
  have w2 : IntKind.i64.wrap (z + 5) = z + 5 := wrap64 (by omega) (by omega)
  simp [w1, w2]
end Go.Proofs.YtjhlidaikegelaaGreat
