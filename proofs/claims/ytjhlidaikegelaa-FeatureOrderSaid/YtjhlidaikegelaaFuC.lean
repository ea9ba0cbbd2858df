/-
  FeatureOrder, run abstractly.
-/
import Derived.Test.YtjhlidaikegelaaFtZ
namespace Go.Proofs.Ytjhlidaikegelaa
set_option linter.unusedSimpArgs false
set_option linter.unusedVariables false
open Go Go.Abs
set_option maxHeartbeats 8000000
set_option maxRecDepth 100000
def rotD (l : List Dfc) (t : Nat) : List Dfc := l.drop t ++ l.take t
theorem rotD_len (l : List Dfc) (t : Nat) (ht : t ≤ l.length) : (rotD l t).length = l.length := by
  unfold rotD
  simp
  omega
theorem rotD_perm (l : List Dfc) (t : Nat) : (rotD l t).Perm l := by
  unfold rotD
  have h := (List.perm_append_comm (l₁ := l.drop t) (l₂ := l.take t))
  rwa [List.take_append_drop] at h
theorem rotD_get (l : List Dfc) (t i : Nat) (ht : t ≤ l.length) (hi : i < l.length) : ∃ (k : Nat) (d : Dfc), (rotD l t)[i]? = some d ∧ l[k]? = some d ∧ ((i : Int) + t).tmod l.length = (k : Int) ∧ k < l.length := by
  unfold rotD
  by_cases h : i < l.length - t
  · refine ⟨i + t, l[i + t]'(by omega), ?_, List.getElem?_eq_getElem (by omega), ?_, by omega⟩
    · rw [List.getElem?_append_left (by simp; omega), List.getElem?_drop, Nat.add_comm t i, List.getElem?_eq_getElem (by omega)]
    · rw [Int.tmod_eq_emod_of_nonneg (by omega), Int.emod_eq_of_lt (by omega) (by omega)]
      omega
  · refine ⟨i + t - l.length, l[i + t - l.length]'(by omega), ?_, List.getElem?_eq_getElem (by omega), ?_, by omega⟩
    · rw [List.getElem?_append_right (by simp; omega), List.getElem?_take, if_pos (by simp; omega)]
      have e : i - (List.drop t l).length = i + t - l.length := by simp; omega
      rw [e, List.getElem?_eq_getElem (by omega)]
    · rw [Int.tmod_eq_emod_of_nonneg (by omega)]
      have e : (i : Int) + t = (i + t - l.length : Nat) + l.length := by omega
      rw [e, Int.add_emod_right, Int.emod_eq_of_lt (by omega) (by omega)]
def eGr (g : Gd) : List D := [S g.b.id, S g.b.log, S g.b.sp, I g.b.prod, I g.b.xa, I g.b.xb, I g.b.ya, I g.b.yb, I g.b.za, I g.b.zb, I g.b.vol, .row 10611, I g.b.wane, I g.b.cel.s, I g.b.cel.c, I g.b.cel.st, B g.b.dried, I g.b.grade, .sl (g.ps.map ePd),
  S g.s.name, I g.s.green, I g.s.fast, I g.s.slow, I g.s.safe, I g.s.grad, I g.s.crack, I g.s.temp, I g.s.dep, I g.s.dens, I g.s.stiff, I g.s.loss, I g.s.shrink]
@[simp] theorem eGr_eq (g : Gd) : eGr g = [S g.b.id, S g.b.log, S g.b.sp, I g.b.prod, I g.b.xa, I g.b.xb, I g.b.ya, I g.b.yb, I g.b.za, I g.b.zb, I g.b.vol, .row 10611, I g.b.wane, I g.b.cel.s, I g.b.cel.c, I g.b.cel.st, B g.b.dried, I g.b.grade, .sl (g.ps.map ePd),
  S g.s.name, I g.s.green, I g.s.fast, I g.s.slow, I g.s.safe, I g.s.grad, I g.s.crack, I g.s.temp, I g.s.dep, I g.s.dens, I g.s.stiff, I g.s.loss, I g.s.shrink] := rfl
theorem rot_loop (g : Gd) (t : Nat) (hl : g.b.dfs.length ≤ 70) (ht : t ≤ g.b.dfs.length) : ∀ (n i : Nat), i ≤ g.b.dfs.length → g.b.dfs.length - i < n →
    L_law42_FeatureOrder 7 n ⟨[(0, .any), (1, I t), (2, .ptr 2 0), (4, .any), (5, I g.b.dfs.length), (6, .ptr 6 0), (7, I i)], [(2, .box 42 (eGd g)), (6, .box 42 (eGr g)), (10611, .row 46 7 true (((rotD g.b.dfs t).take i).map eDf))]⟩ =
      some (.ex 0, ⟨[(0, .any), (1, .any), (2, .ptr 2 0), (4, .any), (5, .any), (6, .ptr 6 0), (7, .any)], [(2, .box 42 (eGd g)), (6, .box 42 (eGr g)), (10611, .row 46 7 true ((rotD g.b.dfs t).map eDf))]⟩) := by
  intro n
  induction n with
  | zero => intro i _ hn; omega
  | succ n ihn =>
    intro i hi hn
    rw [L_law42_FeatureOrder_succ, R_law42_FeatureOrder_eq]
    by_cases h : i < g.b.dfs.length
    · obtain ⟨k, d, h1, h2, h3, h4⟩ := rotD_get g.b.dfs t i ht h
      have ih := ihn (i + 1) (by omega) (by omega)
      have e : (rotD g.b.dfs t).take (i + 1) = (rotD g.b.dfs t).take i ++ [d] := by rw [List.take_add_one, h1]; rfl
      rw [e] at ih
      have hw := wrapN (n := i) (by omega)
      have ws : IntKind.i64.wrap ((i : Int) + t) = (i : Int) + t := wrap64 (by omega) (by omega)
      have h5 : (g.b.dfs.map eDf)[k]? = some (eDf d) := by rw [List.getElem?_map, h2]; rfl
      have h6 : (i : Int) < g.b.dfs.length := by omega
      have h7 : ¬ g.b.dfs = [] := by
        intro e
        rw [e] at h
        simp at h
      have h8 : ((rotD g.b.dfs t).take i).length = i := by
        rw [List.length_take, rotD_len _ _ ht]
        omega
      have h9 : (i + 1) * 57 ≤ 140737488355328 := by omega
      generalize (rotD g.b.dfs t).take i = q at *
      simp at ih
      simp [h6, h7, ws, h3, h5, h8, hw, ih]
      exact h9
    · have e : (rotD g.b.dfs t).take i = rotD g.b.dfs t := List.take_of_length_le (by rw [rotD_len _ _ ht]; omega)
      have h6 : ¬ (i : Int) < g.b.dfs.length := by omega
      rw [e]
      simp [h6]
theorem same_loop (l : List (ByteArray × Int)) (hl : l.length ≤ 1000) : ∀ (n i : Nat) (r : List (ByteArray × Int)), l.drop i = r → r.length < n →
    L_ref42_Same 4 n ⟨[(0, .sl (l.map eFt)), (1, .sl (l.map eFt)), (4, .any), (5, I i)], []⟩ = some (.ex 0, ⟨[(0, .any), (1, .any), (4, .any), (5, .any)], []⟩) := by
  refine lind l _ ?_ ?_
  · intro n i hr
    rw [L_ref42_Same_succ, R_ref42_Same_eq]
    simp [dn hr]
  · intro n i x r hr hi ih
    rw [L_ref42_Same_succ, R_ref42_Same_eq]
    obtain ⟨h1, h3, hr', _⟩ := dc (enc := eFt) hr
    have hw := wrapN (n := i) (by omega)
    simp at ih
    simp [h1, h3, eqD, eqFs, hw, ih]
theorem sameR_run (l : List (ByteArray × Int)) (hl : l.length ≤ 1000) : F_ref42_Same [.sl (l.map eFt), .sl (l.map eFt)] = some (B true) := by
  rw [F_ref42_Same_eq]
  have ih := same_loop l hl bigL 0 l rfl (by have := bigL_ge; omega)
  simp at ih
  simp [ih]
theorem order_law (g : Gd) (ok : g.ps.length ≤ 9223372036854775807) (t : Int) : F_law42_FeatureOrder [.agg (eGd g), I t] = some (B true) := by
  rw [F_law42_FeatureOrder_eq]
  have hs := lshort_run g ok
  have ha := awake_run
  simp at hs
  cases h1 : shG g
  · simp [hs, h1, ha]
  by_cases c1 : t < 0
  · simp [hs, h1, c1, ha]
  by_cases c2 : (g.b.dfs.length : Int) < t
  · simp [hs, h1, c1, c2, ha]
  obtain ⟨k, rfl⟩ : ∃ k : Nat, t = k := ⟨t.toNat, by omega⟩
  have hd := shG_d h1
  have ih := rot_loop g k hd (by omega) bigL 0 (by omega) (by have := bigL_ge; omega)
  have o1 := lof_run g
  have o2 := lof_run ⟨withD g.b (rotD g.b.dfs k), g.ps, g.s⟩
  have e : featsG ⟨withD g.b (rotD g.b.dfs k), g.ps, g.s⟩ = featsG g := featsO_perm g.b _ (rotD_perm _ _) g.ps g.s
  rw [e] at o2
  have hsm := sameR_run (featsG g) (by have := featsG_len g; omega)
  generalize featsG g = l at *
  simp at ih o1
  simp [withD] at o2
  simp [hs, h1, c1, c2, ih, o1, o2, hsm, ha]
end Go.Proofs.Ytjhlidaikegelaa
