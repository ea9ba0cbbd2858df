/-
  Names, run abstractly.
-/
import Derived.Test.YtgngoijehjphoaaMoD
import Derived.Test.YtgngoijehjphoaaAbs3
namespace Go.Proofs.Ytgngoijehjphoaa
set_option linter.unusedSimpArgs false
set_option linter.unusedVariables false
open Go Go.Abs
set_option maxHeartbeats 2000000
set_option maxRecDepth 100000
abbrev Y (n : Int) : D := .x (.int .u8 n)
/-- The bytes of a string. -/
def byt (s : ByteArray) : List UInt8 := s.data.toList
theorem byt_get (s : ByteArray) (i : Nat) : s[i]? = (byt s)[i]? := by
  unfold byt
  rw [Array.getElem?_toList]
  by_cases h : i < s.size
  · rw [getElem?_pos s i h, getElem?_pos s.data i h]
    rfl
  · rw [getElem?_neg s i h, getElem?_neg s.data i h]
theorem byt_len (s : ByteArray) : s.size = (byt s).length := by
  unfold byt
  rw [Array.length_toList]
  rfl
def smallB (c : UInt8) : Bool := decide ((97 : Int) ≤ c.toNat) && decide ((c.toNat : Int) ≤ 122)
def digitB (c : UInt8) : Bool := decide ((48 : Int) ≤ c.toNat) && decide ((c.toNat : Int) ≤ 57)
def partB (c : UInt8) : Bool := smallB c || (digitB c || decide ((c.toNat : Int) = 95))
def partsB : List UInt8 → Bool
  | [] => true
  | c :: r => partB c && partsB r
def isNm (s : ByteArray) : Bool := match byt s with
  | [] => false
  | c :: r => decide (r.length < 16) && (smallB c && partsB r)
theorem nSmall_run (c : UInt8) : F_ident_isSmall [Y c.toNat] = some (B (smallB c)) := by
  rw [F_ident_isSmall_eq]
  unfold smallB
  simp
theorem nDigit_run (c : UInt8) : F_ident_isDigit [Y c.toNat] = some (B (digitB c)) := by
  rw [F_ident_isDigit_eq]
  unfold digitB
  simp
theorem bc {s : ByteArray} {i : Nat} {c : UInt8} {r : List UInt8} (h : (byt s).drop i = c :: r) : s[i]? = some c ∧ i < s.size ∧ (byt s).drop (i + 1) = r := by
  have hi : i < (byt s).length := by
    cases Nat.lt_or_ge i (byt s).length with
    | inl h => exact h
    | inr h' => rw [List.drop_of_length_le h'] at h; cases h
  rw [List.drop_eq_getElem_cons hi] at h
  injection h with h1 h2
  refine ⟨?_, by rw [byt_len]; exact hi, h2⟩
  rw [byt_get, List.getElem?_eq_getElem hi, h1]
theorem bn {s : ByteArray} {i : Nat} (h : (byt s).drop i = []) : ¬ i < s.size := by
  have := List.drop_eq_nil_iff.1 h
  rw [byt_len]
  omega
theorem name_loop (s : ByteArray) (hs : s.size ≤ 1000) : ∀ (n i : Nat) (r : List UInt8), (byt s).drop i = r → r.length < n →
    L_ident_IsName 4 n ⟨[(0, S s), (2, .any), (3, I i), (4, .any)], []⟩ =
      if partsB r = true then some (.ex 0, ⟨[(0, .any), (2, .any), (3, .any), (4, .any)], []⟩) else some (.ret, ⟨[(0, .any), (2, B false), (3, .any), (4, .any)], []⟩)
  | 0, _, _, _, hn => by omega
  | n + 1, i, [], hr, hn => by
    rw [L_ident_IsName_succ, R_ident_IsName_eq]
    simp [bn hr, partsB]
  | n + 1, i, c :: r, hr, hn => by
    rw [L_ident_IsName_succ, R_ident_IsName_eq]
    obtain ⟨h1, h3, hr'⟩ := bc hr
    have hx : s[i] = c := by rw [getElem?_pos s i h3] at h1; injection h1
    have hw := wrapN (n := i) (by omega)
    have ih := name_loop s hs n (i + 1) r hr' (by simp at hn; omega)
    simp at ih
    cases g1 : smallB c
    · cases g2 : digitB c
      · by_cases g3 : (c.toNat : Int) = 95
        · have n1 := nSmall_run c
          have n2 := nDigit_run c
          rw [g3] at n1 n2
          simp [h1, h3, hx, hw, n1, n2, g1, g2, g3, ih, partsB, partB]
        · simp [h1, h3, hx, hw, nSmall_run, nDigit_run, g1, g2, g3, ih, partsB, partB]
      · simp [h1, h3, hx, hw, nSmall_run, nDigit_run, g1, g2, ih, partsB, partB]
    · simp [h1, h3, hx, hw, nSmall_run, nDigit_run, g1, ih, partsB, partB]
theorem isName_run (s : ByteArray) : F_ident_IsName [S s] = some (B (isNm s)) := by
  rw [F_ident_IsName_eq]
  unfold isNm
  have hl := byt_len s
  cases hb : byt s with
  | nil =>
    rw [hb] at hl
    have h0 : s.size = 0 := by simpa using hl
    simp [h0]
  | cons c r =>
    rw [hb] at hl
    have h1 : (1 : Int) ≤ s.size := by rw [hl]; simp; omega
    have h1' : ¬ (s.size : Int) < 1 := by omega
    obtain ⟨g0, g4, g1⟩ := bc (s := s) (i := 0) (c := c) (r := r) (by simpa using hb)
    have hx : s[0] = c := by rw [getElem?_pos s 0 g4] at g0; injection g0
    by_cases h2 : (16 : Int) < s.size
    · have h3 : ¬ r.length < 16 := by simp at hl; omega
      simp [h1, h1', h2, h3]
    · have h3 : r.length < 16 := by simp at hl; omega
      have h2' : (s.size : Int) ≤ 16 := by omega
      cases g2 : smallB c
      · simp [h1, h1', h2, h2', g0, g4, hx, nSmall_run, g2, h3]
      · have ih := name_loop s (by omega) bigL 1 r (by simpa using g1) (by have := bigL_ge; omega)
        simp at ih
        simp [h1, h1', h2, h2', g0, g4, hx, nSmall_run, g2, h3, ih]
end Go.Proofs.Ytgngoijehjphoaa
