/-
  Codes, run abstractly: Is.
-/
import Derived.Test.YtldekjlihfidlaaGreatDoorFtF
namespace Go.Proofs.YtldekjlihfidlaaGreatDoor
set_option linter.unusedSimpArgs false
set_option linter.unusedVariables false
open Go Go.Abs
set_option maxHeartbeats 8000000
set_option maxRecDepth 100000
theorem byt_take (s : ByteArray) (k : Nat) : byt (s.extract 0 k) = (byt s).take k := by
  unfold byt
  rw [ByteArray.data_extract]
  simp [List.extract_eq_take_drop]
def capM (s : ByteArray) : Bool := allB capB ((byt s).take 1)
def digM (s : ByteArray) : Bool := allB digitB (((byt s).take 7).drop 1)
def letM (s : ByteArray) : Int := 65 + letS 0 0 ((byt s).take 7)
/-- Whether a string is a code. -/
def codeB (s : ByteArray) : Bool := decide (s.size = 8) && (capM s && (digM s && decide (letM s = (((byt s)[7]?.getD 0).toNat : Int))))
theorem split0' (s : ByteArray) (hs : s.size = 8) : L_ident_Split 4 bigL ⟨[(0, S s), (2, .any), (3, .any), (4, .any), (6, .any), (7, .any), (8, .any), (9, .any), (13, .own true [prtC, prtD]), (14, I 2), (15, I 0)], []⟩ =
    if capM s = true then if digM s = true then some (.ex 0, ⟨[(0, S s), (2, .any), (3, .any), (4, .any), (6, .any), (7, .any), (8, .any), (9, .any), (13, .any), (14, .any), (15, .any)], []⟩)
    else some (.ret, ⟨[(0, .any), (2, Y 0), (3, I 0), (4, I 5), (6, .any), (7, .any), (8, .any), (9, .any), (13, .any), (14, .any), (15, .any)], []⟩)
    else some (.ret, ⟨[(0, .any), (2, Y 0), (3, I 0), (4, I 10), (6, .any), (7, .any), (8, .any), (9, .any), (13, .any), (14, .any), (15, .any)], []⟩) := by
  obtain ⟨m, hm⟩ := bigL_succ 3 (by omega)
  have i4 := split0 s hs m
  rw [← hm] at i4
  exact i4
theorem letM_run (s : ByteArray) (hs : s.size = 8) : F_ident_Letter [S (s.extract 0 7)] = some (Y (letM s)) := by
  have hl := letter_run (s.extract 0 7) (by rw [byt_len, byt_take, List.length_take]; omega)
  rw [byt_take] at hl
  exact hl
theorem split_run (s : ByteArray) : ∃ k n e : Int, F_ident_Split [S s] = some (.tup [Y k, I n, I e]) ∧ (e = 0 ↔ codeB s = true) ∧ (codeB s = true → k = (((byt s)[0]?.getD 0).toNat : Int)) := by
  by_cases hs : s.size = 8
  · have i4 := split0' s hs
    cases hc : capM s
    · refine ⟨0, 0, 10, ?_, by simp [codeB, hc], by simp [codeB, hc]⟩
      rw [F_ident_Split_eq]
      simp [hc] at i4
      simp [hs, parts_run, i4]
    · cases hd : digM s
      · refine ⟨0, 0, 5, ?_, by simp [codeB, hd], by simp [codeB, hd]⟩
        rw [F_ident_Split_eq]
        simp [hc, hd] at i4
        simp [hs, parts_run, i4]
      · have h7 : 7 < s.size := by omega
        have h0 : 0 < s.size := by omega
        have hl := letM_run s hs
        have b7 : (byt s)[7]? = some (s[7]'h7) := by rw [← byt_get, getElem?_pos s 7 h7]
        have b0 : (byt s)[0]? = some (s[0]'h0) := by rw [← byt_get, getElem?_pos s 0 h0]
        obtain ⟨m', i16⟩ := splitN s hs bigL 1 6 0 rfl (by have := bigL_ge; omega)
        by_cases hq : letM s = ((s[7]'h7).toNat : Int)
        · refine ⟨((s[0]'h0).toNat : Int), m', 0, ?_, by simp [codeB, hs, hc, hd, b7, hq], by simp [b0]⟩
          rw [F_ident_Split_eq]
          simp [hc, hd] at i4
          simp at i16
          simp [hs, parts_run, i4, hl, hq, i16]
        · refine ⟨0, 0, 16, ?_, by simp [codeB, hs, hc, hd, b7, hq], by simp [codeB, hs, hc, hd, b7, hq]⟩
          rw [F_ident_Split_eq]
          simp [hc, hd] at i4
          simp [hs, parts_run, i4, hl, hq]
  · refine ⟨0, 0, 3, ?_, by simp [codeB, hs], by simp [codeB, hs]⟩
    rw [F_ident_Split_eq]
    have hs' : ¬ (s.size : Int) = 8 := by omega
    simp [hs, hs']
theorem is_run (s : ByteArray) (kind : Int) : F_ident_Is [S s, Y kind] = some (B (codeB s && decide (((((byt s)[0]?.getD 0).toNat : Nat) : Int) = kind))) := by
  rw [F_ident_Is_eq]
  obtain ⟨k, n, e, h1, h2, h3⟩ := split_run s
  by_cases he : e = 0
  · have hc := h2.1 he
    have hk := h3 hc
    rw [he, hk] at h1
    simp [h1, hc]
  · have hc : codeB s = false := by
      cases h : codeB s
      · rfl
      · exact absurd (h2.2 h) he
    simp [h1, he, hc]
end Go.Proofs.YtldekjlihfidlaaGreatDoor
