/-
  FeatureOrder, run abstractly.
-/
import Derived.Test.YtjhlidaikegelaaGreatFtZ
namespace Go.Proofs.YtjhlidaikegelaaGreat
set_option linter.unusedSimpArgs false
set_option linter.unusedVariables false
open Go Go.Abs
set_option maxHeartbeats 8000000
set_option maxRecDepth 100000
def rotD (l : List Dfc) (t : Nat) : List Dfc := l.drop t ++ l.take t
theorem rotD_len (l : List Dfc) (t : Nat) (ht : t ≤ l.length) : (rotD l t).length = l.length := by
  unfold rotD
  simp
  omega
theorem rotD_perm (l : List Dfc) (t : Nat) : (rotD l t).Perm l := by
  unfold rotD
  have h := (List.perm_append_comm (l₁ := l.drop t) (l₂ := l.take t))
  rwa [List.take_append_drop] at h
theorem rotD_get (l : List Dfc) (t i : Nat) (ht : t ≤ l.length) (hi : i < l.length) : ∃ (k : Nat) (d : Dfc), (rotD l t)[i]? = some d ∧ l[k]? = some d ∧ ((i : Int) + t).tmod l.length = (k : Int) ∧ k < l.length := by
  unfold rotD
  by_cases h : i < l.length - t
  · refine ⟨i + t, l[i + t]'(by omega), ?_, List.getElem?_eq_getElem (by omega), ?_, by omega⟩
    · rw [List.getElem?_append_left (by simp; omega), List.getElem?_drop, Nat.add_comm t i, List.getElem?_eq_getElem (by omega)]
    · rw [Int.tmod_eq_emod_of_nonneg (by omega), Int.emod_eq_of_lt (by omega) (by omega)]
      omega
  · refine ⟨i + t - l.length, l[i + t - l.length]'(by omega), ?_, List.getElem?_eq_getElem (by omega), ?_, by omega⟩
    · rw [List.getElem?_append_right (by simp; omega), List.getElem?_take, if_pos (by simp; omega)]
      have e : i - (List.drop t l).length = i + t - l.length := by simp; omega
      rw [e, List.getElem?_eq_getElem (by omega)]
    · rw [Int.tmod_eq_emod_of_nonneg (by omega)]
      have e : (i : Int) + t = (i + t - l.length : Nat) + l.length := by omega
      rw [e, Int.add_emod_right, Int.emod_eq_of_lt (by omega) (by omega)]
def eGr (g : Gd) : List D := [S g.b.id, S g.b.log, S g.b.sp, I g.b.prod, I g.b.xa, I g.b.xb, I g.b.ya, I g.b.yb, I g.b.za, I g.b.zb, I g.b.vol, .row 10611, I g.b.wane, I g.b.cel.s, I g.b.cel.c, I g.b.cel.st, B g.b.dried, I g.b.grade, .sl (g.ps.map ePd),
  S g.s.name, I g.s.green, I g.s.fast, I g.s.slow, I g.s.safe, I g.s.grad, I g.s.crack, I g.s.temp, I g.s.dep, I g.s.dens, I g.s.stiff, I g.s.loss, I g.s.shrink]
@[simp] theorem eGr_eq (g : Gd) : eGr g = [S g.b.id, S g.b.log, S g.b.sp, I g.b.prod, I g.b.xa, I g.b.xb, I g.b.ya, I g.b.yb, I g.b.za, I g.b.zb, I g.b.vol, .row 10611, I g.b.wane, I g.b.cel.s, I g.b.cel.c, I g.b.cel.st, B g.b.dried, I g.b.grade, .sl (g.ps.map ePd),
  S g.s.name, I g.s.green, I g.s.fast, I g.s.slow, I g.s.safe, I g.s.grad, I g.s.crack, I g.s.temp, I g.s.dep, I g.s.dens, I g.s.stiff, I g.s.loss, I g.s.shrink] := rfl
theorem same_loop (l : List (ByteArray × Int)) (hl : l.length ≤ 1000) : ∀ (n i : Nat) (r : List (ByteArray × Int)), l.drop i = r → r.length < n →
    L_ref42_Same 4 n ⟨[(0, .sl (l.map eFt)), (1, .sl (l.map eFt)), (4, .any), (5, I i)], []⟩ = some (.ex 0, ⟨[(0, .any), (1, .any), (4, .any), (5, .any)], []⟩) := by
  refine lind l _ ?_ ?_
  · intro n i hr
    rw [L_ref42_Same_succ, R_ref42_Same_eq]
    simp [dn hr]
  · intro n i x r hr hi ih
    rw [L_ref42_Same_succ, R_ref42_Same_eq]
    obtain ⟨h1, h3, hr', _⟩ := dc (enc := eFt) hr
    have hw := wrapN (n := i) (by omega)
    simp at ih
    simp [h1, h3, eqD, eqFs, hw, ih]
theorem sameR_run (l : List (ByteArray × Int)) (hl : l.length ≤ 1000) : F_ref42_Same [.sl (l.map eFt), .sl (l.map eFt)] = some (B true) := by
  rw [F_ref42_Same_eq]
  have ih := same_loop l hl bigL 0 l rfl (by have := bigL_ge; omega)
  simp at ih
  simp [ih]
end Go.Proofs.YtjhlidaikegelaaGreat
