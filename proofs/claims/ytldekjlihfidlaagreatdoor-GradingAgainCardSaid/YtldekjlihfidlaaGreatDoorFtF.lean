/-
  Codes, run abstractly: the program's Split and Is.
-/
import Derived.Test.YtldekjlihfidlaaGreatDoorFtE
namespace Go.Proofs.YtldekjlihfidlaaGreatDoor
set_option linter.unusedSimpArgs false
set_option linter.unusedVariables false
open Go Go.Abs
set_option maxHeartbeats 8000000
set_option maxRecDepth 100000
theorem split2 (s : ByteArray) (n : Nat) : L_ident_Split 4 (n + 1) ⟨[(0, S s), (2, .any), (3, .any), (4, .any), (6, .any), (7, .any), (8, .any), (9, .any), (13, .own true [prtC, prtD]), (14, I 2), (15, I 2)], []⟩ =
    some (.ex 0, ⟨[(0, S s), (2, .any), (3, .any), (4, .any), (6, .any), (7, .any), (8, .any), (9, .any), (13, .any), (14, .any), (15, .any)], []⟩) := by
  rw [L_ident_Split_succ, R_ident_Split_eq]
  simp
theorem split1 (s : ByteArray) (hs : s.size = 8) (n : Nat) : L_ident_Split 4 (n + 2) ⟨[(0, S s), (2, .any), (3, .any), (4, .any), (6, .any), (7, .any), (8, .any), (9, .any), (13, .own true [prtC, prtD]), (14, I 2), (15, I 1)], []⟩ =
    if allB digitB (((byt s).take 7).drop 1) = true then some (.ex 0, ⟨[(0, S s), (2, .any), (3, .any), (4, .any), (6, .any), (7, .any), (8, .any), (9, .any), (13, .any), (14, .any), (15, .any)], []⟩)
    else some (.ret, ⟨[(0, .any), (2, Y 0), (3, I 0), (4, I 5), (6, .any), (7, .any), (8, .any), (9, .any), (13, .any), (14, .any), (15, .any)], []⟩) := by
  rw [show n + 2 = (n + 1) + 1 by omega, L_ident_Split_succ, R_ident_Split_eq]
  have iD := splitD_loop s hs 1 bigL 1 _ rfl (by have := bigL_ge; simp; omega)
  have i2 := split2 s n
  generalize allB digitB (((byt s).take 7).drop 1) = b at *
  cases b
  · simp at iD i2
    simp [iD]
  · simp at iD i2
    simp [iD, i2]
theorem split0 (s : ByteArray) (hs : s.size = 8) (n : Nat) : L_ident_Split 4 (n + 3) ⟨[(0, S s), (2, .any), (3, .any), (4, .any), (6, .any), (7, .any), (8, .any), (9, .any), (13, .own true [prtC, prtD]), (14, I 2), (15, I 0)], []⟩ =
    if allB capB ((byt s).take 1) = true then if allB digitB (((byt s).take 7).drop 1) = true then some (.ex 0, ⟨[(0, S s), (2, .any), (3, .any), (4, .any), (6, .any), (7, .any), (8, .any), (9, .any), (13, .any), (14, .any), (15, .any)], []⟩)
    else some (.ret, ⟨[(0, .any), (2, Y 0), (3, I 0), (4, I 5), (6, .any), (7, .any), (8, .any), (9, .any), (13, .any), (14, .any), (15, .any)], []⟩)
    else some (.ret, ⟨[(0, .any), (2, Y 0), (3, I 0), (4, I 10), (6, .any), (7, .any), (8, .any), (9, .any), (13, .any), (14, .any), (15, .any)], []⟩) := by
  rw [show n + 3 = (n + 2) + 1 by omega, L_ident_Split_succ, R_ident_Split_eq]
  have iC := splitC_loop s hs 0 bigL 0 _ rfl (by have := bigL_ge; simp; omega)
  have i1 := split1 s hs n
  rw [List.drop_zero] at iC
  generalize allB digitB (((byt s).take 7).drop 1) = b at *
  generalize allB capB ((byt s).take 1) = c at *
  cases c
  · simp at iC i1
    simp [iC]
  · simp at iC i1
    simp [iC, i1]
theorem splitN (s : ByteArray) (hs : s.size = 8) : ∀ (n i k : Nat) (m : Int), i + k = 7 → k < n → ∃ m', L_ident_Split 16 n ⟨[(0, S s), (2, .any), (3, .any), (4, .any), (6, .any), (7, .any), (8, I m), (9, I i), (13, .any), (14, .any), (15, .any)], []⟩ =
    some (.ex 4, ⟨[(0, S s), (2, .any), (3, .any), (4, .any), (6, .any), (7, .any), (8, I m'), (9, .any), (13, .any), (14, .any), (15, .any)], []⟩)
  | 0, _, _, _, _, hn => by omega
  | n + 1, i, 0, m, hk, hn => by
    refine ⟨m, ?_⟩
    rw [L_ident_Split_succ, R_ident_Split_eq]
    have h : ¬ (i : Int) ≤ 6 := by omega
    have h' : ¬ i ≤ 6 := by omega
    simp [h, h']
  | n + 1, i, k + 1, m, hk, hn => by
    have h2 : i < s.size := by omega
    obtain ⟨m', ih⟩ := splitN s hs n (i + 1) k (IntKind.i64.wrap (IntKind.i64.wrap (m * 10) + IntKind.i64.wrap (IntKind.u8.wrap ((s[i]'h2).toNat - 48)))) (by omega) (by omega)
    refine ⟨m', ?_⟩
    rw [L_ident_Split_succ, R_ident_Split_eq]
    have h : (i : Int) ≤ 6 := by omega
    have h' : i ≤ 6 := by omega
    have hw := wrapN (n := i) (by omega)
    simp at ih
    simp [h, h', h2, hw, ih]
end Go.Proofs.YtldekjlihfidlaaGreatDoor
