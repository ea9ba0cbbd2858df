/-
  The moisture's functions, run abstractly: steps towards a number, and cells.
-/
import Derived.Test.YthgamgdcjgbmnaaDoorArB
import Derived.Laws.BitsAllLaws
namespace Go.Proofs.YthgamgdcjgbmnaaDoor
set_option linter.unusedSimpArgs false
set_option linter.unusedVariables false
open Go Go.Abs
set_option maxHeartbeats 2000000
set_option maxRecDepth 100000
abbrev U (n : Int) : D := .x (.int .u64 n)
abbrev S (s : ByteArray) : D := .x (.string s)
theorem wrapU {n : Int} (h1 : 0 ≤ n) (h2 : n ≤ 18446744073709551615) : IntKind.u64.wrap n = n := by
  simp only [IntKind.wrap, IntKind.bits, IntKind.signed]
  simp
  omega
@[simp] theorem wrapU0 : IntKind.u64.wrap 0 = 0 := rfl
theorem and32 {x : Int} (h1 : 0 ≤ x) (h2 : x < 4294967296) : bits .and .u64 x 4294967295 = x := by
  rw [u64_and x 4294967295 h1 (by omega) (by omega) (by omega)]
  have e : (4294967295 : Int).toNat = 2 ^ 32 - 1 := rfl
  rw [e, Nat.and_two_pow_sub_one_eq_mod]
  omega
theorem shr32 {x : Int} (h1 : 0 ≤ x) (h2 : x < 4294967296) : x / 4294967296 = 0 := by omega
theorem mul64_run {x y : Int} (hx : 0 ≤ x) (hx2 : x ≤ 60000) (hy : 0 ≤ y) (hy2 : y ≤ 60000) : F_math_bits_Mul64 [U x, U y] = some (.tup [U 0, U (x * y)]) := by
  rw [F_math_bits_Mul64_eq]
  have hp : 0 ≤ x * y := Int.mul_nonneg hx hy
  have hp2 : x * y ≤ 60000 * 60000 := Int.mul_le_mul hx2 hy2 hy (by omega)
  have a1 := and32 hx (by omega)
  have a2 := and32 hy (by omega)
  have a3 := shr32 hx (by omega)
  have a4 := shr32 hy (by omega)
  have a5 : x * y / 4294967296 = 0 := by omega
  have w1 : IntKind.u64.wrap (x * y) = x * y := wrapU hp (by omega)
  have w0 : IntKind.u64.wrap 0 = 0 := rfl
  have b0 : bits .and .u64 0 4294967295 = 0 := rfl
  simp [IntKind.bits, a1, a2, a3, a4, a5, w1, w0, b0]
theorem div64_run {x : Int} (h1 : 0 ≤ x) (h2 : x ≤ 18446744073709551615) : F_math_bits_Div64 [U 0, U x, U 10000] = some (.tup [U (x / 10000), U (x % 10000)]) := by
  rw [F_math_bits_Div64_eq]
  have d1 : x.tdiv 10000 = x / 10000 := Int.tdiv_eq_ediv_of_nonneg h1
  have d2 : x.tmod 10000 = x % 10000 := Int.tmod_eq_emod_of_nonneg h1
  have w1 : IntKind.u64.wrap (x / 10000) = x / 10000 := wrapU (by omega) (by omega)
  simp [d1, d2, w1]
/-- What a step towards a number comes to. -/
def part (u k : Int) : Int := if u * k / 10000 < 1 then 1 else u * k / 10000
def tow (a b k : Int) : Int := if k = 0 then a else if a = b then a else if b < a then a - part (a - b) k else a + part (b - a) k
theorem part_le {u k : Int} (hu : 0 < u) (hk : 0 ≤ k ∧ k ≤ 10000) : 1 ≤ part u k ∧ part u k ≤ u := by
  have h1 : u * k / 10000 ≤ u := Int.ediv_le_of_le_mul (by omega) (by
    have := mul_le_l u hk.2 (by omega)
    omega)
  unfold part
  split <;> omega
theorem toward'_run {a b k : Int} (ha : 0 ≤ a ∧ a ≤ 20000) (hb : 0 ≤ b ∧ b ≤ 20000) (hk : 0 ≤ k ∧ k ≤ 10000) : F_units_Toward [I a, I b, I k] = some (I (tow a b k)) := by
  rw [F_units_Toward_eq]
  have hc := clampN_id hk.1 hk.2
  have wa : IntKind.u64.wrap a = a := wrapU (by omega) (by omega)
  have wb : IntKind.u64.wrap b = b := wrapU (by omega) (by omega)
  have wk : IntKind.u64.wrap k = k := wrapU (by omega) (by omega)
  unfold tow
  by_cases h0 : k = 0
  · have hc0 : clampN 0 0 10000 = 0 := rfl
    simp [clamp_run, hc0, h0]
  · by_cases h1 : a = b
    · simp [clamp_run, hc, h0, h1]
    · by_cases h2 : b < a
      · have w1 : IntKind.u64.wrap (a - b) = a - b := wrapU (by omega) (by omega)
        have hm := mul64_run (x := a - b) (y := k) (by omega) (by omega) hk.1 (by omega)
        have hp : 0 ≤ (a - b) * k := Int.mul_nonneg (by omega) hk.1
        have hp2 : (a - b) * k ≤ 20000 * 10000 := Int.mul_le_mul (by omega) hk.2 hk.1 (by omega)
        have hd := div64_run hp (by omega)
        have pl := part_le (u := a - b) (k := k) (by omega) hk
        have w3 : IntKind.u64.wrap (b - a) = 18446744073709551616 + (b - a) := by
          simp only [IntKind.wrap, IntKind.bits, IntKind.signed]
          simp
          omega
        have w2 : IntKind.u64.wrap (a - part (a - b) k) = a - part (a - b) k := wrapU (by omega) (by omega)
        have w4 : IntKind.i64.wrap (a - part (a - b) k) = a - part (a - b) k := wrap64 (by omega) (by omega)
        have e : (if (a - b) * k / 10000 < 1 then 1 else (a - b) * k / 10000) = part (a - b) k := rfl
        simp [clamp_run, hc, h0, h1, h2, wa, wb, wk, w1, w3, hm, hd, e, w2, w4]
      · have w1 : IntKind.u64.wrap (b - a) = b - a := wrapU (by omega) (by omega)
        have hm := mul64_run (x := b - a) (y := k) (by omega) (by omega) hk.1 (by omega)
        have hp : 0 ≤ (b - a) * k := Int.mul_nonneg (by omega) hk.1
        have hp2 : (b - a) * k ≤ 20000 * 10000 := Int.mul_le_mul (by omega) hk.2 hk.1 (by omega)
        have hd := div64_run hp (by omega)
        have pl := part_le (u := b - a) (k := k) (by omega) hk
        have w2 : IntKind.u64.wrap (a + part (b - a) k) = a + part (b - a) k := wrapU (by omega) (by omega)
        have w4 : IntKind.i64.wrap (a + part (b - a) k) = a + part (b - a) k := wrap64 (by omega) (by omega)
        have e : (if (b - a) * k / 10000 < 1 then 1 else (b - a) * k / 10000) = part (b - a) k := rfl
        simp [clamp_run, hc, h0, h1, h2, wa, wb, wk, w1, hm, hd, e, w2, w4]
theorem part_split {u k : Int} (hu : 0 ≤ u) : u / 10000 * k + u % 10000 * k / 10000 = u * k / 10000 := by
  have e : u * k = (u / 10000 * k) * 10000 + u % 10000 * k := by
    have h := Int.mul_ediv_add_emod u 10000
    calc u * k = (10000 * (u / 10000) + u % 10000) * k := by rw [h]
      _ = _ := by rw [Int.add_mul, Int.mul_comm 10000 (u / 10000), Int.mul_assoc, Int.mul_comm 10000 k, ← Int.mul_assoc]
  rw [e, Int.add_comm ((u / 10000 * k) * 10000), Int.add_mul_ediv_right _ _ (by omega), Int.add_comm]
end Go.Proofs.YthgamgdcjgbmnaaDoor
