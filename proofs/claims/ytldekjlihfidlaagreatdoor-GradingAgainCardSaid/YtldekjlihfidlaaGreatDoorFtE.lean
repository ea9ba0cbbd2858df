/-
  Codes' parts, run abstractly.
-/
import Derived.Test.YtldekjlihfidlaaGreatDoorFtD
namespace Go.Proofs.YtldekjlihfidlaaGreatDoor
set_option linter.unusedSimpArgs false
set_option linter.unusedVariables false
open Go Go.Abs
set_option maxHeartbeats 8000000
set_option maxRecDepth 100000
def allB (ok : UInt8 → Bool) : List UInt8 → Bool
  | [] => true
  | c :: r => if ok c = true then allB ok r else false
def prtC : List D := [I 0, I 1, .x (.func (.func 212) #[] #[]), I 10]
def prtD : List D := [I 1, I 7, .x (.func (.func 149) #[] #[]), I 5]
@[simp] theorem prtC_eq : prtC = [I 0, I 1, .x (.func (.func 212) #[] #[]), I 10] := rfl
@[simp] theorem prtD_eq : prtD = [I 1, I 7, .x (.func (.func 149) #[] #[]), I 5] := rfl
theorem parts_run : F_ident_parts [] = some (.own true [prtC, prtD]) := by
  rw [F_ident_parts_eq]
  simp
theorem splitC_loop (s : ByteArray) (hs : s.size = 8) (j : Int) : ∀ (n i : Nat) (r : List UInt8), ((byt s).take 1).drop i = r → r.length < n →
    L_ident_Split 7 n ⟨[(0, S s), (2, .any), (3, .any), (4, .any), (6, .ptr 6 0), (7, I i), (8, .any), (9, .any), (13, .own true [prtC, prtD]), (14, I 2), (15, I j)], [(6, .box 195 prtC)]⟩ =
      if allB capB r = true then some (.ex 2, ⟨[(0, S s), (2, .any), (3, .any), (4, .any), (6, .any), (7, .any), (8, .any), (9, .any), (13, .own true [prtC, prtD]), (14, I 2), (15, I j)], []⟩)
      else some (.ret, ⟨[(0, .any), (2, Y 0), (3, I 0), (4, I 10), (6, .any), (7, .any), (8, .any), (9, .any), (13, .any), (14, .any), (15, .any)], []⟩)
  | 0, _, _, _, hn => by omega
  | n + 1, i, [], hr, hn => by
    rw [L_ident_Split_succ, R_ident_Split_eq]
    have h := List.drop_eq_nil_iff.1 hr
    rw [List.length_take, ← byt_len, hs] at h
    have h' : ¬ (i : Int) < 1 := by omega
    have h2 : ¬ i < 1 := by omega
    simp [h', h2, allB]
  | n + 1, i, c :: r, hr, hn => by
    rw [L_ident_Split_succ, R_ident_Split_eq]
    have hi : i < ((byt s).take 1).length := by
      cases Nat.lt_or_ge i ((byt s).take 1).length with
      | inl h => exact h
      | inr h' => rw [List.drop_of_length_le h'] at hr; cases hr
    have hi2 : i < 1 := by rw [List.length_take] at hi; omega
    have h2 : i < s.size := by omega
    rw [List.drop_eq_getElem_cons hi] at hr
    injection hr with hc0 hr'
    have hc : s[i]'h2 = c := by
      have h1 := byt_get s i
      rw [getElem?_pos s i h2, List.getElem?_eq_getElem (by rw [← byt_len]; exact h2)] at h1
      injection h1 with h1
      rw [h1, ← hc0, List.getElem_take]
    have hw := wrapN (n := i) (by omega)
    have h3 : (i : Int) < 1 := by omega
    have hk := cap_run c
    have ih := splitC_loop s hs j n (i + 1) r hr' (by simp at hn; omega)
    simp at ih
    cases a : capB c
    · rw [a] at hk
      simp [h3, hi2, h2, hc, hk, allB, a]
    · rw [a] at hk
      simp [h3, hi2, h2, hc, hk, allB, a, hw, ih]
theorem splitD_loop (s : ByteArray) (hs : s.size = 8) (j : Int) : ∀ (n i : Nat) (r : List UInt8), ((byt s).take 7).drop i = r → r.length < n →
    L_ident_Split 7 n ⟨[(0, S s), (2, .any), (3, .any), (4, .any), (6, .ptr 6 0), (7, I i), (8, .any), (9, .any), (13, .own true [prtC, prtD]), (14, I 2), (15, I j)], [(6, .box 195 prtD)]⟩ =
      if allB digitB r = true then some (.ex 2, ⟨[(0, S s), (2, .any), (3, .any), (4, .any), (6, .any), (7, .any), (8, .any), (9, .any), (13, .own true [prtC, prtD]), (14, I 2), (15, I j)], []⟩)
      else some (.ret, ⟨[(0, .any), (2, Y 0), (3, I 0), (4, I 5), (6, .any), (7, .any), (8, .any), (9, .any), (13, .any), (14, .any), (15, .any)], []⟩)
  | 0, _, _, _, hn => by omega
  | n + 1, i, [], hr, hn => by
    rw [L_ident_Split_succ, R_ident_Split_eq]
    have h := List.drop_eq_nil_iff.1 hr
    rw [List.length_take, ← byt_len, hs] at h
    have h' : ¬ (i : Int) < 7 := by omega
    have h2 : ¬ i < 7 := by omega
    simp [h', h2, allB]
  | n + 1, i, c :: r, hr, hn => by
    rw [L_ident_Split_succ, R_ident_Split_eq]
    have hi : i < ((byt s).take 7).length := by
      cases Nat.lt_or_ge i ((byt s).take 7).length with
      | inl h => exact h
      | inr h' => rw [List.drop_of_length_le h'] at hr; cases hr
    have hi2 : i < 7 := by rw [List.length_take] at hi; omega
    have h2 : i < s.size := by omega
    rw [List.drop_eq_getElem_cons hi] at hr
    injection hr with hc0 hr'
    have hc : s[i]'h2 = c := by
      have h1 := byt_get s i
      rw [getElem?_pos s i h2, List.getElem?_eq_getElem (by rw [← byt_len]; exact h2)] at h1
      injection h1 with h1
      rw [h1, ← hc0, List.getElem_take]
    have hw := wrapN (n := i) (by omega)
    have h3 : (i : Int) < 7 := by omega
    have hk := nDigit_run c
    have ih := splitD_loop s hs j n (i + 1) r hr' (by simp at hn; omega)
    simp at ih
    cases a : digitB c
    · rw [a] at hk
      simp [h3, hi2, h2, hc, hk, allB, a]
    · rw [a] at hk
      simp [h3, hi2, h2, hc, hk, allB, a, hw, ih]
end Go.Proofs.YtldekjlihfidlaaGreatDoor
