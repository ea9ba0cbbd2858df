/-
  The catalog, run abstractly (under way).
-/
import Derived.Test.YtldekjlihfidlaaGreatDoorFtB
namespace Go.Proofs.YtldekjlihfidlaaGreatDoor
set_option linter.unusedSimpArgs false
set_option linter.unusedVariables false
open Go Go.Abs
set_option maxHeartbeats 8000000
set_option maxRecDepth 100000
/-! ### The reference's letter -/
theorem rletter_loop (s : ByteArray) (hs : s.size ≤ 20) : ∀ (n i : Nat) (r : List UInt8) (m : Int), (byt s).drop i = r → r.length < n → 0 ≤ m ∧ m < 23 →
    L_ref02_Letter 3 n ⟨[(0, S s), (2, .any), (3, I m), (4, I i)], []⟩ = some (.ex 0, ⟨[(0, .any), (2, .any), (3, I (letS m i r)), (4, .any)], []⟩)
  | 0, _, _, _, _, hn, _ => by omega
  | n + 1, i, [], m, hr, hn, hm => by
    rw [L_ref02_Letter_succ, R_ref02_Letter_eq]
    have h := bn hr
    simp [h, letS]
  | n + 1, i, c :: r, m, hr, hn, hm => by
    rw [L_ref02_Letter_succ, R_ref02_Letter_eq]
    obtain ⟨h1, h2, hr'⟩ := bc hr
    have hw := wrapN (n := i) (by omega)
    obtain ⟨f1, f2⟩ := let_facts c (i := i) (by omega) hm
    have e0 : ((i : Int) + 1).tmod 23 = (i : Int) + 1 := by rw [Int.tmod_eq_emod_of_nonneg (by omega)]; omega
    have w1 : IntKind.i64.wrap (((i : Int) + 1) * c.toNat) = ((i : Int) + 1) * c.toNat := wrap64 (by omega) (by omega)
    have w2 : IntKind.i64.wrap (m + ((i : Int) + 1) * c.toNat) = m + ((i : Int) + 1) * c.toNat := wrap64 (by omega) (by omega)
    have e : (m + ((i : Int) + 1) * c.toNat).tmod 23 = (m + ((i : Int) + 1) * c.toNat) % 23 := Int.tmod_eq_emod_of_nonneg (by omega)
    have w3 : IntKind.i64.wrap ((m + ((i : Int) + 1) * c.toNat) % 23) = (m + ((i : Int) + 1) * c.toNat) % 23 := wrap64 (by omega) (by omega)
    have ih := rletter_loop s hs n (i + 1) r ((m + ((i : Int) + 1) * c.toNat) % 23) hr' (by simp at hn; omega) ⟨by omega, by omega⟩
    have hc : s[i]'h2 = c := by
      rw [getElem?_pos s i h2] at h1
      injection h1
    have w0 : IntKind.i64.wrap (c.toNat : Int) = c.toNat := wrap64 (by have := byte_lt c; omega) (by have := byte_lt c; omega)
    simp at ih
    simp [hc, h2, hw, e0, w0, w1, w2, e, w3, ih, letS]
theorem rletter_run (s : ByteArray) (hs : s.size ≤ 20) : F_ref02_Letter [S s] = some (Y (65 + letS 0 0 (byt s))) := by
  rw [F_ref02_Letter_eq]
  have ih := rletter_loop s hs bigL 0 (byt s) 0 rfl (by have := bigL_ge; have := byt_len s; omega) (by omega)
  obtain ⟨r1, r2⟩ := letS_rng (byt s) 0 0 (by omega)
  simp at ih
  have w1 : IntKind.i64.wrap (65 + letS 0 0 (byt s)) = 65 + letS 0 0 (byt s) := wrap64 (by omega) (by omega)
  have w2 : IntKind.u8.wrap (65 + letS 0 0 (byt s)) = 65 + letS 0 0 (byt s) := by rw [IntKind.wrap_u8]; omega
  simp [ih, w1, w2]
/-! ### The catalog -/
theorem find_loop (l : List Pd) (nm : ByteArray) (hl : l.length ≤ 1000) : ∀ (n i : Nat) (r : List Pd), l.drop i = r → r.length < n →
    ∃ k, L_product_Find 2 n ⟨[(0, .any), (1, S nm), (4, .any), (5, .any), (6, .any), (7, .any), (8, .sl (l.map ePd)), (9, I l.length), (10, I i)], []⟩ =
      if hasN nm r = true then some (.ret, ⟨[(0, .any), (1, .any), (4, I k), (5, B true), (6, .any), (7, .any), (8, .any), (9, .any), (10, .any)], []⟩)
      else some (.ex 0, ⟨[(0, .any), (1, .any), (4, .any), (5, .any), (6, .any), (7, .any), (8, .any), (9, .any), (10, .any)], []⟩)
  | 0, _, _, _, hn => by omega
  | n + 1, i, [], hr, hn => by
    refine ⟨0, ?_⟩
    rw [L_product_Find_succ, R_product_Find_eq]
    simp [dn hr, hasN]
  | n + 1, i, x :: r, hr, hn => by
    obtain ⟨h1, h3, hr', hi⟩ := dc (enc := ePd) hr
    have hw := wrapN (n := i) (by omega)
    obtain ⟨k, ih⟩ := find_loop l nm hl n (i + 1) r hr' (by simp at hn; omega)
    by_cases a1 : x.name = nm
    · refine ⟨i, ?_⟩
      rw [L_product_Find_succ, R_product_Find_eq]
      simp [h1, h3, hasN, a1]
    · refine ⟨k, ?_⟩
      rw [L_product_Find_succ, R_product_Find_eq]
      simp at ih
      simp [h1, h3, hasN, a1, hw, ih]
theorem find_run (l : List Pd) (nm : ByteArray) (hl : l.length ≤ 1000) : ∃ k, F_product_Find [.sl (l.map ePd), S nm] = some (.tup [I k, B (hasN nm l)]) := by
  obtain ⟨k, ih⟩ := find_loop l nm hl bigL 0 l rfl (by have := bigL_ge; omega)
  simp at ih
  cases h : hasN nm l
  · refine ⟨0, ?_⟩
    rw [F_product_Find_eq]
    simp [h] at ih
    simp [ih]
  · refine ⟨k, ?_⟩
    rw [F_product_Find_eq]
    simp [h] at ih
    simp [ih]
end Go.Proofs.YtldekjlihfidlaaGreatDoor
