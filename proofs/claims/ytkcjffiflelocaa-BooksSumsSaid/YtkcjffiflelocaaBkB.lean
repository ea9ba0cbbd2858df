/-
  The books' movements, run abstractly: what postings of a movement, and the reference's ordered postings, are.
-/
import Derived.Test.YtkcjffiflelocaaBkA
namespace Go.Proofs.Ytkcjffiflelocaa
open Go Go.Abs
set_option maxHeartbeats 4000000
set_option maxRecDepth 100000

/-- Accounts with amounts that are not 0. -/
def nz (l : List (ByteArray × Int)) : List (ByteArray × Int) := l.filter fun p => !decide (p.2 = 0)

@[simp] theorem kill_I (k : Nat) : kill1 k ∘ I = I := rfl
@[simp] theorem Es_append (a b : List (ByteArray × Int)) : Es (a ++ b) = Es a ++ Es b := by simp [Es]

theorem postings_loop (m : List Int) (hm : m.length = 8) : ∀ (n i : Nat) (ps : List (ByteArray × Int)) (d0 d2 d4 d5 : D), i ≤ 8 → 8 - i < n → ps.length ≤ i →
    L_books_postings_int 3 n ⟨[(0, d0), (1, .ptr 1 0), (2, d2), (3, .row 3), (4, d4), (5, d5), (6, .own true (accs.map fun a => [S a])), (7, I 8), (8, I i)], [(1, .box 46 (m.map I)), (3, .row 49 2 true (Es ps))]⟩ =
      some (.ex 0, ⟨[(0, .any), (1, .any), (2, .any), (3, .row 3), (4, .any), (5, .any), (6, .any), (7, .any), (8, .any)], [(3, .row 49 2 true (Es (ps ++ nz ((accs.zip m).drop i))))]⟩)
  | 0, i, _, _, _, _, _, _, hn, _ => by omega
  | n + 1, i, ps, d0, d2, d4, d5, hi, hn, hp => by
    rw [L_books_postings_int_succ, R_books_postings_int_eq]
    by_cases h : i < 8
    · have ha : accs.length = 8 := rfl
      have h1 : (accs.map fun a => [S a])[i]? = some [S (accs[i]'(by omega))] := by simp [ha, h]
      have h2 : (m.map I)[i]? = some (I m[i]) := by simp [hm, h]
      have h3 : (i : Int) < 8 := by omega
      have h4 : (ps.length + 1) * 25 ≤ 140737488355328 := by omega
      have hw := wrapN (n := i) (by omega)
      have hd : (accs.zip m).drop i = (accs[i]'(by omega), m[i]) :: (accs.zip m).drop (i + 1) := by
        rw [List.drop_eq_getElem_cons (by simp [hm, ha, h])]
        simp
      by_cases hz : m[i] = 0
      · simp [h1, h2, h3, hw, hz, hm, h]
        refine (postings_loop m hm n (i + 1) ps .any .any (I i) _ (by omega) (by omega) (by omega)).trans ?_
        simp only [hd, nz, hz, List.filter_cons, decide_true, Bool.not_true, Bool.false_eq_true, if_false, Es_append]
      · simp [h1, h2, h3, hw, hz, hm, h, h4]
        have ih := postings_loop m hm n (i + 1) (ps ++ [(accs[i]'(by omega), m[i])]) .any .any (I i) (S (accs[i]'(by omega))) (by omega) (by omega) (by simp; omega)
        simp only [Es_append, Es_cons, Es_nil] at ih
        refine ih.trans ?_
        simp only [hd, nz, hz, List.filter_cons, decide_false, Bool.not_false, if_true, Es_append, Es_cons, List.append_assoc, List.cons_append, List.nil_append]
    · have h3 : ¬ (i : Int) < 8 := by omega
      have h4 : (accs.zip m).drop i = [] := List.drop_of_length_le (by simp [hm, accs]; omega)
      simp [h3, h4, nz]
theorem postings_run (a b c d e f g h : Int) : F_books_postings_int [.agg [I a, I b, I c, I d, I e, I f, I g, I h]] = some (.own true (Es (nz (accs.zip [a, b, c, d, e, f, g, h])))) := by
  rw [F_books_postings_int_eq]
  have hbig := bigL_ge
  have ih := fun d0 d2 d4 d5 => postings_loop [a, b, c, d, e, f, g, h] rfl bigL 0 [] d0 d2 d4 d5 (by omega) (by omega) (by simp)
  simp at ih
  have ha : accs.length = 8 := rfl
  simp [ih, accounts_run, ha]

/-- What postings say about an account, behind what was counted before. -/
def amt (n : Int) (l : List (ByteArray × Int)) (a : ByteArray) : Int := l.foldl (fun n p => if p.1 = a then IntKind.i64.wrap (n + p.2) else n) n
theorem amount_loop (l : List (ByteArray × Int)) (a : ByteArray) (hb : l.length ≤ 9223372036854775807) : ∀ (n i : Nat) (k : Int) (d4 : D), i ≤ l.length → l.length - i < n →
    L_ref52_Amount 3 n ⟨[(0, .sl (Es l)), (1, S a), (4, d4), (5, I k), (6, I i)], []⟩ = some (.ex 0, ⟨[(0, .any), (1, .any), (4, .any), (5, I (amt k (l.drop i) a)), (6, .any)], []⟩)
  | 0, i, _, _, _, hn => by omega
  | n + 1, i, k, d4, hi, hn => by
    rw [L_ref52_Amount_succ, R_ref52_Amount_eq]
    by_cases h : i < l.length
    · have h1 := Es_get h
      have h3 : (i : Int) < l.length := by omega
      have hw := wrapN (n := i) (by omega)
      have hd := List.drop_eq_getElem_cons h
      by_cases hq : l[i].1 = a
      · simp [h1, h3, hq, hw]
        refine (amount_loop l a hb n (i + 1) _ .any (by omega) (by omega)).trans ?_
        rw [hd]
        simp only [amt, List.foldl_cons, hq, if_true]
      · simp [h1, h3, hq, hw]
        refine (amount_loop l a hb n (i + 1) _ .any (by omega) (by omega)).trans ?_
        rw [hd]
        simp only [amt, List.foldl_cons, hq, if_false]
    · have h3 : ¬ (i : Int) < l.length := by omega
      have h4 : l.drop i = [] := List.drop_of_length_le (by omega)
      simp [h3, h4, amt]
theorem amount_run (l : List (ByteArray × Int)) (a : ByteArray) (hb : l.length ≤ 9223372036854775807) : F_ref52_Amount [.sl (Es l), S a] = some (I (amt 0 l a)) := by
  rw [F_ref52_Amount_eq]
  have hbig := bigL_ge
  have ih := fun d => amount_loop l a hb bigL 0 0 d (by omega) (by omega)
  simp at ih
  simp [ih]

theorem ordered_loop (l : List (ByteArray × Int)) (hb : l.length ≤ 9223372036854775807) : ∀ (n i : Nat) (ps : List (ByteArray × Int)) (d2 d6 : D), i ≤ 8 → 8 - i < n → ps.length ≤ i →
    L_ref52_Ordered 4 n ⟨[(0, .sl (Es l)), (2, d2), (3, .row 3), (4, .own true (accs.map fun a => [S a])), (5, I i), (6, d6)], [(3, .row 49 2 true (Es ps))]⟩ =
      some (.ex 0, ⟨[(0, .any), (2, .any), (3, .row 3), (4, .any), (5, .any), (6, .any)], [(3, .row 49 2 true (Es (ps ++ nz ((accs.map fun a => (a, amt 0 l a)).drop i))))]⟩)
  | 0, i, _, _, _, _, hn, _ => by omega
  | n + 1, i, ps, d2, d6, hi, hn, hp => by
    rw [L_ref52_Ordered_succ, R_ref52_Ordered_eq]
    have ha : accs.length = 8 := rfl
    by_cases h : i < 8
    · have h1 : (accs.map fun a => [S a])[i]? = some [S (accs[i]'(by omega))] := by simp [ha, h]
      have h3 : (i : Int) < 8 := by omega
      have h4 : (ps.length + 1) * 25 ≤ 140737488355328 := by omega
      have hw := wrapN (n := i) (by omega)
      have hd : (accs.map fun a => (a, amt 0 l a)).drop i = (accs[i]'(by omega), amt 0 l (accs[i]'(by omega))) :: (accs.map fun a => (a, amt 0 l a)).drop (i + 1) := by
        rw [List.drop_eq_getElem_cons (by simp [ha, h])]
        simp
      have hr := amount_run l (accs[i]'(by omega)) hb
      by_cases hz : amt 0 l (accs[i]'(by omega)) = 0
      · simp [h1, h3, hw, hz, h, hr, ha]
        refine (ordered_loop l hb n (i + 1) ps .any _ (by omega) (by omega) (by omega)).trans ?_
        simp only [hd, nz, hz, List.filter_cons, decide_true, Bool.not_true, Bool.false_eq_true, if_false, Es_append]
      · simp [h1, h3, hw, hz, h, h4, hr, ha]
        have ih := ordered_loop l hb n (i + 1) (ps ++ [(accs[i]'(by omega), amt 0 l (accs[i]'(by omega)))]) .any (I (amt 0 l (accs[i]'(by omega)))) (by omega) (by omega) (by simp; omega)
        simp only [Es_append, Es_cons, Es_nil] at ih
        refine ih.trans ?_
        simp only [hd, nz, hz, List.filter_cons, decide_false, Bool.not_false, if_true, Es_append, Es_cons, List.append_assoc, List.cons_append, List.nil_append]
    · have h3 : ¬ (i : Int) < 8 := by omega
      have h4 : (accs.map fun a => (a, amt 0 l a)).drop i = [] := List.drop_of_length_le (by simp [ha]; omega)
      simp only [h4]
      simp [h3, nz, ha]
theorem ordered_run (l : List (ByteArray × Int)) (hb : l.length ≤ 9223372036854775807) : F_ref52_Ordered [.sl (Es l)] = some (.own true (Es (nz (accs.map fun a => (a, amt 0 l a))))) := by
  rw [F_ref52_Ordered_eq]
  have hbig := bigL_ge
  have ih := fun d2 d6 => ordered_loop l hb bigL 0 [] d2 d6 (by omega) (by omega) (by simp)
  simp at ih
  simp [ih, ref_accounts_run]
end Go.Proofs.Ytkcjffiflelocaa
