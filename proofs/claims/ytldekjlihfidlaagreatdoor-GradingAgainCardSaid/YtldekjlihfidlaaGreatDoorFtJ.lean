/-
  The reference's catalog and defects, run abstractly.
-/
import Derived.Test.YtldekjlihfidlaaGreatDoorFtI
namespace Go.Proofs.YtldekjlihfidlaaGreatDoor
set_option linter.unusedSimpArgs false
set_option linter.unusedVariables false
open Go Go.Abs
set_option maxHeartbeats 8000000
set_option maxRecDepth 100000
theorem rexist_loop (l : List Pd) (x : Pd) (i : Nat) (hi : i ≤ l.length) (hl : l.length ≤ 1000) : ∀ (n k : Nat) (r : List Pd), (l.take i).drop k = r → r.length < n →
    L_ref19_Check 10 n ⟨[(0, .sl (l.map ePd)), (2, .any), (3, I i), (4, .ptr 4 0), (5, I k), (7, .any), (8, .any)], [(4, .box 57 (ePd x))]⟩ =
      if hasN x.name r = true then some (.ret, ⟨[(0, .any), (2, I 7), (3, .any), (4, .any), (5, .any), (7, .any), (8, .any)], []⟩)
      else some (.ex 2, ⟨[(0, .sl (l.map ePd)), (2, .any), (3, I i), (4, .ptr 4 0), (5, .any), (7, .any), (8, .any)], [(4, .box 57 (ePd x))]⟩)
  | 0, _, _, _, hn => by omega
  | n + 1, k, [], hr, hn => by
    rw [L_ref19_Check_succ, R_ref19_Check_eq]
    have h := List.drop_eq_nil_iff.1 hr
    rw [List.length_take] at h
    have h' : ¬ (k : Int) < i := by omega
    have h2 : ¬ k < i := by omega
    simp [h', h2, hasN]
  | n + 1, k, y :: r, hr, hn => by
    rw [L_ref19_Check_succ, R_ref19_Check_eq]
    obtain ⟨_, _, hr', hk⟩ := dc (enc := ePd) hr
    rw [List.length_take] at hk
    have hki : k < i := by omega
    have hkl : k < l.length := by omega
    have hy : l[k]? = some y := by
      have := congrArg List.head? hr
      rw [List.head?_drop, List.getElem?_take, if_pos hki] at this
      simpa using this
    have h1 : (l.map ePd)[k]? = some (ePd y) := by rw [List.getElem?_map, hy]; rfl
    have h3 : (k : Int) < l.length := by omega
    have h4 : (k : Int) < i := by omega
    have hw := wrapN (n := k) (by omega)
    have ih := rexist_loop l x i hi hl n (k + 1) r hr' (by simp at hn; omega)
    simp at ih
    by_cases a1 : y.name = x.name
    · simp [h1, h3, h4, hki, hasN, a1]
    · simp [h1, h3, h4, hki, hasN, a1, hw, ih]
theorem numsE_if {α : Type} (f : Int → α) (x : Pd) : f (numsE x) = if x.thick < 5 then f 9 else if 300 < x.thick then f 9 else if x.width < x.thick then f 9 else if 600 < x.width then f 9 else if x.allow < 0 then f 9 else if 200 < x.allow then f 9 else if x.wane < 0 then f 9 else if 1000 < x.wane then f 9 else if 600 < greenW x then f 9 else f (listsE x) := by
  unfold numsE
  repeat' split
  all_goals rfl
theorem rcat_loop (l : List Pd) (hl : l.length ≤ 1000) : ∀ (n i : Nat) (r : List Pd), l.drop i = r → r.length < n →
    L_ref19_Check 4 n ⟨[(0, .sl (l.map ePd)), (2, .any), (3, I i), (4, .any), (5, .any), (7, .any), (8, .any)], []⟩ =
      if catE (l.take i) r = 0 then some (.ex 0, ⟨[(0, .any), (2, .any), (3, .any), (4, .any), (5, .any), (7, .any), (8, .any)], []⟩)
      else some (.ret, ⟨[(0, .any), (2, I (catE (l.take i) r)), (3, .any), (4, .any), (5, .any), (7, .any), (8, .any)], []⟩) := by
  intro n
  induction n with
  | zero => intro i r hr hn; omega
  | succ n ihn =>
    intro i r hr hn
    cases r with
    | nil =>
      rw [L_ref19_Check_succ, R_ref19_Check_eq]
      simp [dn hr, catE]
    | cons x r =>
      rw [L_ref19_Check_succ, R_ref19_Check_eq]
      obtain ⟨h1, h3, hr', hi⟩ := dc (enc := ePd) hr
      have hw := wrapN (n := i) (by omega)
      have ih := ihn (i + 1) r hr' (by simp at hn; omega)
      have hx : l[i]? = some x := by
        have := congrArg List.head? hr
        simpa [List.head?_drop] using this
      have ht : l.take (i + 1) = l.take i ++ [x] := by rw [List.take_add_one, hx]; rfl
      rw [ht] at ih
      have hex := rexist_loop l x i (by omega) hl bigL 0 (l.take i) rfl (by have := bigL_ge; rw [List.length_take]; omega)
      have hnm := rname_run x.name
      have hg := rgreenP_run x
      have hls := rlists_run x
      simp at ih hg hls hex
      cases a1 : isNm x.name
      · rw [a1] at hnm
        simp [h1, h3, hnm, catE, a1]
      rw [a1] at hnm
      cases a2 : hasN x.name (l.take i)
      · rw [a2] at hex
        simp at hex
        simp only [catE, a1, a2, Bool.false_eq_true, if_false, if_true]
        by_cases c1 : listsE x = 0
        · rw [numsE_if (fun e => if (if e = 0 then catE (l.take i ++ [x]) r else e) = 0 then some (E.ex 0, (⟨[(0, .any), (2, .any), (3, .any), (4, .any), (5, .any), (7, .any), (8, .any)], []⟩ : St)) else some (.ret, ⟨[(0, .any), (2, I (if e = 0 then catE (l.take i ++ [x]) r else e)), (3, .any), (4, .any), (5, .any), (7, .any), (8, .any)], []⟩))]
          simp [h1, h3, hnm, hex, hg, hls, c1, hw, ih]
          simp only [← Int.not_lt, ite_not]
        · rw [numsE_if (fun e => if (if e = 0 then catE (l.take i ++ [x]) r else e) = 0 then some (E.ex 0, (⟨[(0, .any), (2, .any), (3, .any), (4, .any), (5, .any), (7, .any), (8, .any)], []⟩ : St)) else some (.ret, ⟨[(0, .any), (2, I (if e = 0 then catE (l.take i ++ [x]) r else e)), (3, .any), (4, .any), (5, .any), (7, .any), (8, .any)], []⟩))]
          simp [h1, h3, hnm, hex, hg, hls, c1]
          simp only [← Int.not_lt, ite_not]
      · rw [a2] at hex
        simp at hex
        simp [h1, h3, hnm, hex, catE, a1, a2]
theorem rcheckPd_run (l : List Pd) : F_ref19_Check [.sl (l.map ePd)] = some (I (checkPd l)) := by
  rw [F_ref19_Check_eq]
  unfold checkPd
  by_cases h : (16 : Int) < l.length
  · simp [h]
  · have ih := rcat_loop l (by omega) bigL 0 l rfl (by have := bigL_ge; omega)
    simp at ih
    by_cases h2 : catE [] l = 0
    · simp [h2] at ih
      simp [h, ih, h2]
    · simp [h2] at ih
      simp [h, ih, h2]
end Go.Proofs.YtldekjlihfidlaaGreatDoor
