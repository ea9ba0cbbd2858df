/-
  The books' small functions, run abstractly: accounts, postings of a movement, tests of volumes and balances.
-/
import Derived.Test.YtgngoijehjphoaaLgF
import Derived.Test.YtgngoijehjphoaaLgQ
namespace Go.Proofs.Ytgngoijehjphoaa
set_option linter.unusedSimpArgs false
set_option linter.unusedVariables false
open Go Go.Abs
set_option maxHeartbeats 8000000
set_option maxRecDepth 100000
abbrev sForest : ByteArray := ⟨#[102, 111, 114, 101, 115, 116]⟩
abbrev sLogs : ByteArray := ⟨#[108, 111, 103, 115]⟩
abbrev sGreen : ByteArray := ⟨#[103, 114, 101, 101, 110]⟩
abbrev sDry : ByteArray := ⟨#[100, 114, 121]⟩
abbrev sChips : ByteArray := ⟨#[99, 104, 105, 112, 115]⟩
abbrev sDust : ByteArray := ⟨#[100, 117, 115, 116]⟩
abbrev sShipped : ByteArray := ⟨#[115, 104, 105, 112, 112, 101, 100]⟩
abbrev sSold : ByteArray := ⟨#[115, 111, 108, 100]⟩
def acc8 : List ByteArray := [sForest, sLogs, sGreen, sDry, sChips, sDust, sShipped, sSold]
theorem acc8_len : acc8.length = 8 := rfl
theorem acc8_nd : acc8.Nodup := by decide +kernel
theorem accounts_run : F_books_Accounts [] = some (.own true (acc8.map eNm)) := by
  rw [F_books_Accounts_eq]
  simp [acc8]
theorem raccounts_run : F_ref52_Accounts [] = some (.own true (acc8.map eNm)) := by
  rw [F_ref52_Accounts_eq]
  simp [acc8]
/-- Postings, without those of 0. -/
def nzP : List (ByteArray × Int) → List Pst
  | [] => []
  | p :: r => if p.2 = 0 then nzP r else ⟨p.1, p.2⟩ :: nzP r
def mv (m : List Int) : List Pst := nzP (acc8.zip m)
@[simp] theorem kill1_I8 (k : Nat) : kill1 k ∘ (fun n : Int => I n) = fun n => I n := rfl
@[simp] theorem usedC_I8 (k : Nat) : ∀ l : List Int, usedC k (l.map fun n => I n) = false
  | [] => rfl
  | x :: r => by simp only [List.map_cons, usedC, usedC_I8 k r]; rfl
theorem post_loop52 (m : List Int) (hm : m.length = 8) : ∀ (n i : Nat) (r : List (ByteArray × Int)) (es : List Pst), (acc8.zip m).drop i = r → r.length < n → es.length ≤ i →
    L_books_postings_int 3 n ⟨[(0, .any), (1, .ptr 1 0), (2, .any), (3, .row 3), (4, .any), (5, .any), (6, .own true (acc8.map eNm)), (7, I 8), (8, I i)], [(1, .box 71 (m.map fun n => I n)), (3, .row 38 2 true (es.map ePs))]⟩ =
      some (.ex 0, ⟨[(0, .any), (1, .any), (2, .any), (3, .row 3), (4, .any), (5, .any), (6, .any), (7, .any), (8, .any)], [(3, .row 38 2 true ((es ++ nzP r).map ePs))]⟩) := by
  intro n
  induction n with
  | zero => intro i r es hr hn; omega
  | succ n ih =>
    intro i r es hr hn hes
    rw [L_books_postings_int_succ, R_books_postings_int_eq]
    have hz : (acc8.zip m).length = 8 := by simp [acc8, hm]
    have hal : (acc8.map eNm).length = 8 := rfl
    cases r with
    | nil =>
      have h2 : ¬ (i : Int) < 8 := by
        have := List.drop_eq_nil_iff.1 hr
        omega
      generalize acc8.map eNm = A at *
      simp [h2, nzP]
    | cons x r =>
      obtain ⟨h1, _, hr', hi⟩ := dcG hr
      rw [hz] at hi
      have h3 : (i : Int) < 8 := by omega
      have hw := wrapN (n := i) (by omega)
      simp only [List.length_cons] at hn
      have ha : (acc8.map eNm)[i]? = some (eNm x.1) := by
        obtain ⟨hlt, e⟩ := List.getElem?_eq_some_iff.1 h1
        rw [← e]
        simp [acc8_len, hi]
      have hv : m[i]'(by omega) = x.2 := by
        obtain ⟨hlt, e⟩ := List.getElem?_eq_some_iff.1 h1
        rw [← e]
        simp
      have hsz : (es.length + 1) * 25 ≤ 140737488355328 := by omega
      by_cases h0 : x.2 = 0
      · have ih' := ih (i + 1) r es hr' (by omega) (by omega)
        simp only [Int.natCast_add, Int.cast_ofNat_Int] at ih'
        rw [h0] at hv
        generalize acc8.map eNm = A at *
        simp [ha, hv, h3, hi, hw, hm, nzP, h0]
        simpa using ih'
      · have ih' := ih (i + 1) r (es ++ [⟨x.1, x.2⟩]) hr' (by omega) (by simp; omega)
        simp only [Int.natCast_add, Int.cast_ofNat_Int] at ih'
        generalize acc8.map eNm = A at *
        simp [ha, hv, h3, hi, hw, hm, nzP, h0, hsz]
        simpa using ih'
theorem postings_run (a b c d e f g h : Int) : F_books_postings_int [.agg [I a, I b, I c, I d, I e, I f, I g, I h]] = some (.own true ((mv [a, b, c, d, e, f, g, h]).map ePs)) := by
  rw [F_books_postings_int_eq]
  have ih := post_loop52 [a, b, c, d, e, f, g, h] rfl bigL 0 (acc8.zip [a, b, c, d, e, f, g, h]) [] rfl (by have := bigL_ge; simp [acc8_len]; omega) (by simp)
  have hal : (acc8.map eNm).length = 8 := rfl
  have ha := accounts_run
  generalize acc8.map eNm = A at *
  generalize hz : nzP (acc8.zip [a, b, c, d, e, f, g, h]) = Z at *
  have hmv : mv [a, b, c, d, e, f, g, h] = Z := hz
  simp at ih
  simp [ih, ha, hal, hmv]
end Go.Proofs.Ytgngoijehjphoaa
