/-
  The reference's codes and catalog, run abstractly.
-/
import Derived.Test.YtldekjlihfidlaaGreatDoorFtG
namespace Go.Proofs.YtldekjlihfidlaaGreatDoor
set_option linter.unusedSimpArgs false
set_option linter.unusedVariables false
open Go Go.Abs
set_option maxHeartbeats 8000000
set_option maxRecDepth 100000
theorem rsplit_loop (s : ByteArray) (hs : s.size = 8) : ∀ (n i : Nat) (r : List UInt8) (m : Int), ((byt s).take 7).drop i = r → r.length < n →
    ∃ m', L_ref02_Split 7 n ⟨[(0, S s), (2, .any), (3, .any), (4, .any), (5, I m), (6, I i)], []⟩ =
      if allB digitB r = true then some (.ex 0, ⟨[(0, S s), (2, .any), (3, .any), (4, .any), (5, I m'), (6, .any)], []⟩)
      else some (.ret, ⟨[(0, .any), (2, Y 0), (3, I 0), (4, I 5), (5, .any), (6, .any)], []⟩)
  | 0, _, _, _, _, hn => by omega
  | n + 1, i, [], m, hr, hn => by
    refine ⟨m, ?_⟩
    rw [L_ref02_Split_succ, R_ref02_Split_eq]
    have h := List.drop_eq_nil_iff.1 hr
    rw [List.length_take, ← byt_len, hs] at h
    have h' : ¬ (i : Int) < 7 := by omega
    have h2 : ¬ i < 7 := by omega
    simp [h', h2, allB]
  | n + 1, i, c :: r, m, hr, hn => by
    have hi : i < ((byt s).take 7).length := by
      cases Nat.lt_or_ge i ((byt s).take 7).length with
      | inl h => exact h
      | inr h' => rw [List.drop_of_length_le h'] at hr; cases hr
    have hi2 : i < 7 := by rw [List.length_take] at hi; omega
    have h2 : i < s.size := by omega
    rw [List.drop_eq_getElem_cons hi] at hr
    injection hr with hc0 hr'
    have hc : s[i]'h2 = c := by
      have h1 := byt_get s i
      rw [getElem?_pos s i h2, List.getElem?_eq_getElem (by rw [← byt_len]; exact h2)] at h1
      injection h1 with h1
      rw [h1, ← hc0, List.getElem_take]
    have hw := wrapN (n := i) (by omega)
    have h3 : (i : Int) < 7 := by omega
    have hk := rDigit_run c
    obtain ⟨m', ih⟩ := rsplit_loop s hs n (i + 1) r (IntKind.i64.wrap (IntKind.i64.wrap (10 * m) + IntKind.i64.wrap (IntKind.u8.wrap (c.toNat - 48)))) hr' (by simp at hn; omega)
    refine ⟨m', ?_⟩
    rw [L_ref02_Split_succ, R_ref02_Split_eq]
    simp at ih
    cases a : digitB c
    · rw [a] at hk
      simp [h3, hi2, h2, hc, hk, allB, a]
    · rw [a] at hk
      simp [h3, hi2, h2, hc, hk, allB, a, hw, ih]
theorem rletM_run (s : ByteArray) (hs : s.size = 8) : F_ref02_Letter [S (s.extract 0 7)] = some (Y (letM s)) := by
  have hl := rletter_run (s.extract 0 7) (by rw [byt_len, byt_take, List.length_take]; omega)
  rw [byt_take] at hl
  exact hl
theorem capM_eq (s : ByteArray) (h0 : 0 < s.size) : capM s = capB (s[0]'h0) := by
  have h1 := byt_get s 0
  rw [getElem?_pos s 0 h0] at h1
  unfold capM
  cases hb : byt s with
  | nil => rw [hb] at h1; simp at h1
  | cons c r =>
    rw [hb] at h1
    simp at h1
    rw [h1]
    simp only [List.take_succ_cons, List.take_zero, allB]
    cases capB c <;> rfl
theorem rsplit_run (s : ByteArray) : ∃ k n e : Int, F_ref02_Split [S s] = some (.tup [Y k, I n, I e]) ∧ (e = 0 ↔ codeB s = true) ∧ (codeB s = true → k = (((byt s)[0]?.getD 0).toNat : Int)) := by
  by_cases hs : s.size = 8
  · have h0 : 0 < s.size := by omega
    have h7 : 7 < s.size := by omega
    have hcap := rcap_run (s[0]'h0)
    rw [← capM_eq s h0] at hcap
    obtain ⟨m', i7⟩ := rsplit_loop s hs bigL 1 _ 0 rfl (by have := bigL_ge; simp; omega)
    have ed : allB digitB (((byt s).take 7).drop 1) = digM s := rfl
    rw [ed] at i7
    have b7 : (byt s)[7]? = some (s[7]'h7) := by rw [← byt_get, getElem?_pos s 7 h7]
    have b0 : (byt s)[0]? = some (s[0]'h0) := by rw [← byt_get, getElem?_pos s 0 h0]
    cases hc : capM s
    · rw [hc] at hcap
      refine ⟨0, 0, 10, ?_, by simp [codeB, hc], by simp [codeB, hc]⟩
      rw [F_ref02_Split_eq]
      simp [hs, hcap]
    · rw [hc] at hcap
      cases hd : digM s
      · refine ⟨0, 0, 5, ?_, by simp [codeB, hd], by simp [codeB, hd]⟩
        rw [F_ref02_Split_eq]
        simp [hd] at i7
        simp [hs, hcap, i7]
      · have hl := rletM_run s hs
        by_cases hq : letM s = ((s[7]'h7).toNat : Int)
        · refine ⟨((s[0]'h0).toNat : Int), m', 0, ?_, by simp [codeB, hs, hc, hd, b7, hq], by simp [b0]⟩
          rw [F_ref02_Split_eq]
          simp [hd] at i7
          simp [hs, hcap, i7, hl, hq]
        · have hq' : ¬ ((s[7]'h7).toNat : Int) = letM s := fun e => hq e.symm
          refine ⟨0, 0, 16, ?_, by simp [codeB, hs, hc, hd, b7, hq], by simp [codeB, hs, hc, hd, b7, hq]⟩
          rw [F_ref02_Split_eq]
          simp [hd] at i7
          simp [hs, hcap, i7, hl, hq, hq']
  · refine ⟨0, 0, 3, ?_, by simp [codeB, hs], by simp [codeB, hs]⟩
    rw [F_ref02_Split_eq]
    have hs' : ¬ (s.size : Int) = 8 := by omega
    simp [hs, hs']
theorem ris_run (s : ByteArray) (kind : Int) : F_ref02_Is [S s, Y kind] = some (B (codeB s && decide (((((byt s)[0]?.getD 0).toNat : Nat) : Int) = kind))) := by
  rw [F_ref02_Is_eq]
  obtain ⟨k, n, e, h1, h2, h3⟩ := rsplit_run s
  by_cases he : e = 0
  · have hc := h2.1 he
    have hk := h3 hc
    rw [he, hk] at h1
    simp [h1, hc]
  · have hc : codeB s = false := by
      cases h : codeB s
      · rfl
      · exact absurd (h2.2 h) he
    simp [h1, he, hc]
end Go.Proofs.YtldekjlihfidlaaGreatDoor
