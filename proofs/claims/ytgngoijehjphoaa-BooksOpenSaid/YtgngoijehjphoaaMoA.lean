/-
  The moisture's functions, run abstractly: steps towards a number, and cells.
-/
import Derived.Test.YtgngoijehjphoaaArB
import Derived.Laws.BitsAllLaws
namespace Go.Proofs.Ytgngoijehjphoaa
set_option linter.unusedSimpArgs false
set_option linter.unusedVariables false
open Go Go.Abs
set_option maxHeartbeats 2000000
set_option maxRecDepth 100000
abbrev U (n : Int) : D := .x (.int .u64 n)
abbrev S (s : ByteArray) : D := .x (.string s)
theorem wrapU {n : Int} (h1 : 0 ≤ n) (h2 : n ≤ 18446744073709551615) : IntKind.u64.wrap n = n := by
  simp only [IntKind.wrap, IntKind.bits, IntKind.signed]
  simp
  omega
@[simp] theorem wrapU0 : IntKind.u64.wrap 0 = 0 := rfl
theorem and32 {x : Int} (h1 : 0 ≤ x) (h2 : x < 4294967296) : bits .and .u64 x 4294967295 = x := by
  rw [u64_and x 4294967295 h1 (by omega) (by omega) (by omega)]
  have e : (4294967295 : Int).toNat = 2 ^ 32 - 1 := rfl
  rw [e, Nat.and_two_pow_sub_one_eq_mod]
  omega
theorem shr32 {x : Int} (h1 : 0 ≤ x) (h2 : x < 4294967296) : x / 4294967296 = 0 := by omega
/-- What a step towards a number comes to. -/
def part (u k : Int) : Int := if u * k / 10000 < 1 then 1 else u * k / 10000
def tow (a b k : Int) : Int := if k = 0 then a else if a = b then a else if b < a then a - part (a - b) k else a + part (b - a) k
theorem part_le {u k : Int} (hu : 0 < u) (hk : 0 ≤ k ∧ k ≤ 10000) : 1 ≤ part u k ∧ part u k ≤ u := by
  have h1 : u * k / 10000 ≤ u := Int.ediv_le_of_le_mul (by omega) (by
    have := mul_le_l u hk.2 (by omega)
    omega)
  unfold part
  split <;> omega
theorem part_split {u k : Int} (hu : 0 ≤ u) : u / 10000 * k + u % 10000 * k / 10000 = u * k / 10000 := by
  have e : u * k = (u / 10000 * k) * 10000 + u % 10000 * k := by
    have h := Int.mul_ediv_add_emod u 10000
    calc u * k = (10000 * (u / 10000) + u % 10000) * k := by rw [h]
      _ = _ := by rw [Int.add_mul, Int.mul_comm 10000 (u / 10000), Int.mul_assoc, Int.mul_comm 10000 k, ← Int.mul_assoc]
  rw [e, Int.add_comm ((u / 10000 * k) * 10000), Int.add_mul_ediv_right _ _ (by omega), Int.add_comm]
end Go.Proofs.Ytgngoijehjphoaa
