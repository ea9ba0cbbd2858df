/-
  The reference's catalog, run abstractly.
-/
import Derived.Test.YtldekjlihfidlaaGreatDoorFtH
namespace Go.Proofs.YtldekjlihfidlaaGreatDoor
set_option linter.unusedSimpArgs false
set_option linter.unusedVariables false
open Go Go.Abs
set_option maxHeartbeats 8000000
set_option maxRecDepth 100000
theorem rlens_loop (p : Pd) (hl : p.lens.length ≤ 1000) : ∀ (n i : Nat) (r : List Int), p.lens.drop i = r → r.length < n →
    L_ref19_checkLengths 8 n ⟨[(0, .any), (1, .ptr 1 0), (2, .any), (3, I i), (4, .any)], [(1, .box 57 (ePd p))]⟩ =
      if lensE (if i = 0 then none else p.lens[i - 1]?) r = 0 then some (.ex 0, ⟨[(0, .any), (1, .ptr 1 0), (2, .any), (3, .any), (4, .any)], [(1, .box 57 (ePd p))]⟩)
      else some (.ret, ⟨[(0, .any), (1, .any), (2, I (lensE (if i = 0 then none else p.lens[i - 1]?) r)), (3, .any), (4, .any)], []⟩)
  | 0, _, _, _, hn => by omega
  | n + 1, i, [], hr, hn => by
    rw [L_ref19_checkLengths_succ, R_ref19_checkLengths_eq]
    simp [dn hr, lensE]
  | n + 1, i, x :: r, hr, hn => by
    rw [L_ref19_checkLengths_succ, R_ref19_checkLengths_eq]
    obtain ⟨h1, h3, hr', hi⟩ := dc (enc := eI) hr
    have hw := wrapN (n := i) (by omega)
    have ih := rlens_loop p hl n (i + 1) r hr' (by simp at hn; omega)
    have hx : p.lens[i]? = some x := by
      have := congrArg List.head? hr
      simpa [List.head?_drop] using this
    simp [hx] at ih
    by_cases a3 : i = 0
    · subst a3
      have hx0 : p.lens[0]'hi = x := by
        rw [List.getElem?_eq_getElem hi] at hx
        injection hx
      simp at ih
      by_cases a1 : x < 100
      · simp [hi, hx0, lensE, a1]
      by_cases a2 : 20000 < x
      · simp [hi, hx0, lensE, a1, a2]
      simp [hi, hx0, lensE, a1, a2, ih]
    · have a4 : 0 < i := by omega
      have hy : p.lens[i - 1]? = some (p.lens[i - 1]'(by omega)) := List.getElem?_eq_getElem (by omega)
      have k1 : (p.lens.map eI)[i - 1]? = some (eI (p.lens[i - 1]'(by omega))) := by rw [List.getElem?_map, hy]; rfl
      have hp := wrapP (n := i) (by omega) (by omega)
      have k3 : ((i - 1 : Nat) : Int) < p.lens.length := by omega
      generalize p.lens[i - 1]'(by omega) = y at *
      by_cases a1 : x < 100
      · simp [h1, h3, lensE, a1]
      by_cases a2 : 20000 < x
      · simp [h1, h3, lensE, a1, a2]
      by_cases a5 : x ≤ y
      · simp [h1, h3, lensE, a1, a2, a3, a4, hp, k1, k3, hy, a5]
      · simp [h1, h3, lensE, a1, a2, a3, a4, hp, k1, k3, hy, a5, hw, ih]
theorem rprs_loop (p : Pd) (hl : p.prs.length ≤ 1000) : ∀ (n i : Nat) (r : List Int), p.prs.drop i = r → r.length < n →
    L_ref19_checkLengths 15 n ⟨[(0, .any), (1, .ptr 1 0), (2, .any), (3, .any), (4, I i)], [(1, .box 57 (ePd p))]⟩ =
      if prsE r = 0 then some (.ex 2, ⟨[(0, .any), (1, .any), (2, .any), (3, .any), (4, .any)], []⟩)
      else some (.ret, ⟨[(0, .any), (1, .any), (2, I (prsE r)), (3, .any), (4, .any)], []⟩)
  | 0, _, _, _, hn => by omega
  | n + 1, i, [], hr, hn => by
    rw [L_ref19_checkLengths_succ, R_ref19_checkLengths_eq]
    simp [dn hr, prsE]
  | n + 1, i, x :: r, hr, hn => by
    rw [L_ref19_checkLengths_succ, R_ref19_checkLengths_eq]
    obtain ⟨h1, h3, hr', hi⟩ := dc (enc := eI) hr
    have hw := wrapN (n := i) (by omega)
    have ih := rprs_loop p hl n (i + 1) r hr' (by simp at hn; omega)
    simp at ih
    by_cases a1 : x < 0
    · simp [h1, h3, prsE, a1]
    by_cases a2 : 1000000 < x
    · simp [h1, h3, prsE, a1, a2]
    · simp [h1, h3, prsE, a1, a2, hw, ih]
theorem rlists_run (p : Pd) : F_ref19_checkLengths [.agg (ePd p)] = some (I (listsE p)) := by
  rw [F_ref19_checkLengths_eq]
  unfold listsE
  by_cases b1 : p.lens.length = 0
  · simp [b1]
  by_cases b2 : (8 : Int) < p.lens.length
  · simp [b1, b2]
  by_cases b3 : (p.prs.length : Int) = p.lens.length
  · have i15 := rlens_loop p (by omega) bigL 0 p.lens rfl (by have := bigL_ge; omega)
    have i23 := rprs_loop p (by omega) bigL 0 p.prs rfl (by have := bigL_ge; omega)
    simp at i15 i23
    by_cases b4 : lensE none p.lens = 0
    · simp [b4] at i15
      by_cases b5 : prsE p.prs = 0
      · simp [b5] at i23
        simp [b1, b2, b3, i15, i23, b4, b5]
      · simp [b5] at i23
        simp [b1, b2, b3, i15, i23, b4, b5]
    · simp [b4] at i15
      simp [b1, b2, b3, i15, b4]
  · simp [b1, b2, b3]
end Go.Proofs.YtldekjlihfidlaaGreatDoor
