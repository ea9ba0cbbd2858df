/-
  Codes, run abstractly.
-/
import Derived.Test.YtldekjlihfidlaaGreatDoorFtA
namespace Go.Proofs.YtldekjlihfidlaaGreatDoor
set_option linter.unusedSimpArgs false
set_option linter.unusedVariables false
open Go Go.Abs
set_option maxHeartbeats 8000000
set_option maxRecDepth 100000
theorem cap_run (c : UInt8) : F_ident_isCapital [Y c.toNat] = some (B (capB c)) := by
  rw [F_ident_isCapital_eq]
  unfold capB
  simp
theorem rcap_run (c : UInt8) : F_ref02_capital [Y c.toNat] = some (B (capB c)) := by
  rw [F_ref02_capital_eq]
  unfold capB
  simp
theorem byte_lt (c : UInt8) : (c.toNat : Int) < 256 := by
  have := c.toNat_lt
  omega
theorem let_facts {m : Int} {i : Nat} (c : UInt8) (hi : i < 1000) (hm : 0 ≤ m ∧ m < 23) : (0 ≤ ((i : Int) + 1) * c.toNat ∧ ((i : Int) + 1) * c.toNat ≤ 300000) := by
  have h1 := byte_lt c
  have h2 : ((i : Int) + 1) * c.toNat ≤ 1000 * 256 := Int.mul_le_mul (by omega) (by omega) (by omega) (by omega)
  have h3 : 0 ≤ ((i : Int) + 1) * c.toNat := Int.mul_nonneg (by omega) (by omega)
  omega
theorem letS_rng : ∀ (r : List UInt8) (m : Int) (i : Nat), 0 ≤ m ∧ m < 23 → 0 ≤ letS m i r ∧ letS m i r < 23
  | [], m, i, h => h
  | c :: r, m, i, h => by
    unfold letS
    exact letS_rng r _ (i + 1) ⟨Int.emod_nonneg _ (by omega), Int.emod_lt_of_pos _ (by omega)⟩
theorem letter_loop (s : ByteArray) (hs : s.size ≤ 1000) : ∀ (n i : Nat) (r : List UInt8) (m : Int), (byt s).drop i = r → r.length < n → 0 ≤ m ∧ m < 23 →
    L_ident_Letter 3 n ⟨[(0, S s), (2, .any), (3, I m), (4, I i)], []⟩ = some (.ex 0, ⟨[(0, .any), (2, .any), (3, I (letS m i r)), (4, .any)], []⟩)
  | 0, _, _, _, _, hn, _ => by omega
  | n + 1, i, [], m, hr, hn, hm => by
    rw [L_ident_Letter_succ, R_ident_Letter_eq]
    have h := bn hr
    simp [h, letS]
  | n + 1, i, c :: r, m, hr, hn, hm => by
    rw [L_ident_Letter_succ, R_ident_Letter_eq]
    obtain ⟨h1, h2, hr'⟩ := bc hr
    have hw := wrapN (n := i) (by omega)
    obtain ⟨f1, f2⟩ := let_facts c (i := i) (by omega) hm
    have w1 : IntKind.i64.wrap (((i : Int) + 1) * c.toNat) = ((i : Int) + 1) * c.toNat := wrap64 (by omega) (by omega)
    have w2 : IntKind.i64.wrap (m + ((i : Int) + 1) * c.toNat) = m + ((i : Int) + 1) * c.toNat := wrap64 (by omega) (by omega)
    have e : (m + ((i : Int) + 1) * c.toNat).tmod 23 = (m + ((i : Int) + 1) * c.toNat) % 23 := Int.tmod_eq_emod_of_nonneg (by omega)
    have w3 : IntKind.i64.wrap ((m + ((i : Int) + 1) * c.toNat) % 23) = (m + ((i : Int) + 1) * c.toNat) % 23 := wrap64 (by omega) (by omega)
    have ih := letter_loop s hs n (i + 1) r ((m + ((i : Int) + 1) * c.toNat) % 23) hr' (by simp at hn; omega) ⟨by omega, by omega⟩
    have hc : s[i]'h2 = c := by
      rw [getElem?_pos s i h2] at h1
      injection h1
    have w0 : IntKind.i64.wrap (c.toNat : Int) = c.toNat := wrap64 (by have := byte_lt c; omega) (by have := byte_lt c; omega)
    simp at ih
    simp [hc, h2, hw, w0, w1, w2, e, w3, ih, letS]
theorem letter_run (s : ByteArray) (hs : s.size ≤ 1000) : F_ident_Letter [S s] = some (Y (65 + letS 0 0 (byt s))) := by
  rw [F_ident_Letter_eq]
  have ih := letter_loop s hs bigL 0 (byt s) 0 rfl (by have := bigL_ge; have := byt_len s; omega) (by omega)
  obtain ⟨r1, r2⟩ := letS_rng (byt s) 0 0 (by omega)
  simp at ih
  have w1 : IntKind.u8.wrap (letS 0 0 (byt s)) = letS 0 0 (byt s) := by rw [IntKind.wrap_u8]; omega
  have w2 : IntKind.u8.wrap (65 + letS 0 0 (byt s)) = 65 + letS 0 0 (byt s) := by rw [IntKind.wrap_u8]; omega
  simp [ih, w1, w2]
end Go.Proofs.YtldekjlihfidlaaGreatDoor
