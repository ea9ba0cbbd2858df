/-
  The books' small functions, run abstractly: the accounts, whether two lists of postings are the same, what postings say about an account, and the postings of a movement.
-/
import Derived.Test.YtkcjffiflelocaaGen
namespace Go.Proofs.Ytkcjffiflelocaa
open Go Go.Abs
set_option maxHeartbeats 4000000
set_option maxRecDepth 100000
abbrev I (n : Int) : D := .x (.int .i64 n)
abbrev B (b : Bool) : D := .x (.bool b)
abbrev S (s : ByteArray) : D := .x (.string s)
/-- Postings, as the rows of their cells. -/
def Es (l : List (ByteArray × Int)) : List (List D) := l.map fun p => [S p.1, I p.2]
@[simp] theorem Es_nil : Es [] = [] := rfl
@[simp] theorem Es_cons (p : ByteArray × Int) (l : List (ByteArray × Int)) : Es (p :: l) = [S p.1, I p.2] :: Es l := rfl
@[simp] theorem Es_len (l : List (ByteArray × Int)) : (Es l).length = l.length := by simp [Es]
theorem Es_get {l : List (ByteArray × Int)} {i : Nat} (h : i < l.length) : (Es l)[i]? = some [S l[i].1, I l[i].2] := by simp [Es, h]
def sForest : ByteArray := ⟨#[102, 111, 114, 101, 115, 116]⟩
def sLogs : ByteArray := ⟨#[108, 111, 103, 115]⟩
def sGreen : ByteArray := ⟨#[103, 114, 101, 101, 110]⟩
def sDry : ByteArray := ⟨#[100, 114, 121]⟩
def sChips : ByteArray := ⟨#[99, 104, 105, 112, 115]⟩
def sDust : ByteArray := ⟨#[100, 117, 115, 116]⟩
def sShipped : ByteArray := ⟨#[115, 104, 105, 112, 112, 101, 100]⟩
def sSold : ByteArray := ⟨#[115, 111, 108, 100]⟩
theorem eForest : (⟨#[102, 111, 114, 101, 115, 116]⟩ : ByteArray) = sForest := rfl
def accs : List ByteArray := [sForest, sLogs, sGreen, sDry, sChips, sDust, sShipped, sSold]
theorem accounts_run : F_books_Accounts [] = some (.own true (accs.map fun a => [S a])) := by
  rw [F_books_Accounts_eq]
  simp [accs, sForest, sLogs, sGreen, sDry, sChips, sDust, sShipped, sSold]
theorem ref_accounts_run : F_ref52_Accounts [] = some (.own true (accs.map fun a => [S a])) := by
  rw [F_ref52_Accounts_eq]
  simp [accs, sForest, sLogs, sGreen, sDry, sChips, sDust, sShipped, sSold]

theorem wrapN {n : Nat} (h : n < 9223372036854775807) : IntKind.i64.wrap ((n : Int) + 1) = (n : Int) + 1 := wrap64 (by omega) (by omega)

theorem same_loop (ps qs : List (ByteArray × Int)) (hl : ps.length = qs.length) (hb : ps.length ≤ 9223372036854775807) : ∀ (n i : Nat) (d4 : D), i ≤ ps.length → ps.length - i < n →
    L_ref52_Same 4 n ⟨[(0, .sl (Es ps)), (1, .sl (Es qs)), (4, d4), (5, I i)], []⟩ = some (if ps.drop i = qs.drop i then (.ex 0, ⟨[(0, .any), (1, .any), (4, .any), (5, .any)], []⟩) else (.ret, ⟨[(0, .any), (1, .any), (4, B false), (5, .any)], []⟩))
  | 0, i, _, _, hn => by omega
  | n + 1, i, d4, hi, hn => by
    rw [L_ref52_Same_succ, R_ref52_Same_eq]
    by_cases h : i < ps.length
    · have h1 := Es_get h
      have h2 := Es_get (l := qs) (i := i) (by omega)
      have h3 : (i : Int) < ps.length := by omega
      have hc : (ps.drop i = qs.drop i) = (ps[i] = qs[i] ∧ ps.drop (i + 1) = qs.drop (i + 1)) := by
        rw [List.drop_eq_getElem_cons h, List.drop_eq_getElem_cons (show i < qs.length by omega), List.cons.injEq]
      have hw := wrapN (n := i) (by omega)
      have ih := same_loop ps qs hl hb n (i + 1) .any (by omega) (by omega)
      by_cases hq1 : ps[i].1 = qs[i].1
      · by_cases hq2 : ps[i].2 = qs[i].2
        · simp [h1, h2, h3, hq1, hq2, hw]
          refine ih.trans ?_
          have hq : ps[i] = qs[i] := Prod.ext hq1 hq2
          simp only [hc, hq, true_and]
        · have hq : ps[i] ≠ qs[i] := fun e => hq2 (by rw [e])
          simp [h1, h2, h3, hq1, hq2, hw]
          simp only [hc, hq, false_and, not_false_eq_true]
      · have hq : ps[i] ≠ qs[i] := fun e => hq1 (by rw [e])
        simp [h1, h2, h3, hq1, hw]
        simp only [hc, hq, false_and, not_false_eq_true]
    · have h3 : ¬ (i : Int) < ps.length := by omega
      have h4 : ps.drop i = qs.drop i := by rw [List.drop_of_length_le (by omega), List.drop_of_length_le (by omega)]
      simp [h3, h4]
theorem same_run (ps qs : List (ByteArray × Int)) (hb : ps.length ≤ 9223372036854775807) : F_ref52_Same [.sl (Es ps), .sl (Es qs)] = some (B (decide (ps = qs))) := by
  rw [F_ref52_Same_eq]
  have hbig := bigL_ge
  by_cases hl : ps.length = qs.length
  · have h1 : (ps.length : Int) = qs.length := by omega
    have ih := fun d => same_loop ps qs hl hb bigL 0 d (by omega) (by omega)
    by_cases hq : ps = qs
    · simp [hq] at ih
      simp [h1, ih, hq]
    · simp [hq] at ih
      simp [h1, ih, hq]
  · have h1 : ¬ (ps.length : Int) = qs.length := by omega
    have hq : ps ≠ qs := fun e => hl (by rw [e])
    simp [h1, hq]
end Go.Proofs.Ytkcjffiflelocaa
