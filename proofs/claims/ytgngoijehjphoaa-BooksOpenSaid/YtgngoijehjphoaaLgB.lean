/-
  The check of an entry, run abstractly.
-/
import Derived.Test.YtgngoijehjphoaaLgA
namespace Go.Proofs.Ytgngoijehjphoaa
set_option linter.unusedSimpArgs false
set_option linter.unusedVariables false
open Go Go.Abs
set_option maxHeartbeats 4000000
set_option maxRecDepth 100000
@[simp] theorem ePs_eq (p : Pst) : ePs p = [S p.acc, I p.amt] := rfl
theorem dcP {l : List Pst} {i : Nat} {x : Pst} {r : List Pst} (h : l.drop i = x :: r) : l[i]? = some x ∧ (i : Int) < l.length ∧ l.drop (i + 1) = r ∧ i < l.length := by
  have h1 : l[i]? = some x := by
    have := congrArg (fun t => t[0]?) h
    simpa using this
  have hlt := (List.getElem?_eq_some_iff.1 h1).1
  exact ⟨h1, by omega, by rw [← List.tail_drop, h]; rfl, hlt⟩
theorem outside_run (n : Int) : F_ledger_outside [I n] = some (B (outB n)) := by
  rw [F_ledger_outside_eq]; simp [outB]
theorem amount_run (p : Pst) : F_ledger_amountOf [.agg [S p.acc, I p.amt]] = some (I p.amt) := by
  rw [F_ledger_amountOf_eq]; simp
theorem total_loop (l : List Pst) (hl : l.length ≤ 1000) : ∀ (n i : Nat) (r : List Pst) (s : Int), l.drop i = r → r.length < n →
    L_ledger_total_api_Posting_int 3 n ⟨[(0, .any), (1, .x (.func (.func 35) #[] #[])), (4, .any), (5, I s), (7, .any), (8, .sl (l.map ePs)), (9, I l.length), (10, I i)], []⟩ =
      some (.ex 0, ⟨[(0, .any), (1, .any), (4, .any), (5, I (totP s r)), (7, .any), (8, .any), (9, .any), (10, .any)], []⟩) := by
  intro n
  induction n with
  | zero => intro i r s hr hn; omega
  | succ n ih =>
    intro i r s hr hn
    rw [L_ledger_total_api_Posting_int_succ, R_ledger_total_api_Posting_int_eq]
    cases r with
    | nil =>
      have h2 : ¬ (i : Int) < l.length := by
        have := List.drop_eq_nil_iff.1 hr
        omega
      simp [h2, totP]
    | cons p r =>
      obtain ⟨h1, h3, hr', hi⟩ := dcP hr
      have hw := wrapN (n := i) (by omega)
      have ih' := ih (i + 1) r (IntKind.i64.wrap (s + p.amt)) hr' (by simp at hn; omega)
      simp only [Int.natCast_add, Int.cast_ofNat_Int] at ih'
      have ha := amount_run p
      simp [h1, h3, ha, hw, totP]
      simpa using ih'
theorem total_run (l : List Pst) (hl : l.length ≤ 1000) : F_ledger_total_api_Posting_int [.sl (l.map ePs), .x (.func (.func 35) #[] #[])] = some (I (totP 0 l)) := by
  rw [F_ledger_total_api_Posting_int_eq]
  have ih := total_loop l hl bigL 0 l 0 rfl (by have := bigL_ge; omega)
  simp at ih
  simp [ih]
theorem check_loop (b : Bal) (ids : List ByteArray) (es : List (List D)) (id : ByteArray) (t : Int) (ps : List Pst) (hl : ps.length ≤ 1000) : ∀ (n i : Nat) (r : List Pst), ps.drop i = r → r.length < n →
    L_ledger_Ledger_checkEntry 15 n ⟨[(0, .elt [.mpv (b.map encB), .mpv (ids.map encK), .sl es]), (1, .any), (3, .ptr 3 0), (4, .any), (5, .any), (7, .any), (9, .any), (64, .sl (ps.map ePs)), (65, I ps.length), (66, I i)], [(3, .box 41 [S id, I t, .sl (ps.map ePs)])]⟩ =
      if pstE b r = 0 then some (.ex 0, ⟨[(0, .any), (1, .any), (3, .ptr 3 0), (4, .any), (5, .any), (7, .any), (9, .any), (64, .any), (65, .any), (66, .any)], [(3, .box 41 [S id, I t, .sl (ps.map ePs)])]⟩)
      else some (.ret, ⟨[(0, .any), (1, .any), (3, .any), (4, I (pstE b r)), (5, .any), (7, .any), (9, .any), (64, .any), (65, .any), (66, .any)], []⟩) := by
  intro n
  induction n with
  | zero => intro i r hr hn; omega
  | succ n ih =>
    intro i r hr hn
    rw [L_ledger_Ledger_checkEntry_succ, R_ledger_Ledger_checkEntry_eq]
    cases r with
    | nil =>
      have h2 : ¬ (i : Int) < ps.length := by
        have := List.drop_eq_nil_iff.1 hr
        omega
      simp [h2, pstE]
    | cons p r =>
      obtain ⟨h1, h3, hr', hi⟩ := dcP hr
      have hw := wrapN (n := i) (by omega)
      have ih' := ih (i + 1) r hr' (by simp at hn; omega)
      simp only [Int.natCast_add, Int.cast_ofNat_Int] at ih'
      have hk := lookV_B p.acc b
      have ho := outside_run p.amt
      by_cases c1 : balO p.acc b = none
      · simp [h1, h3, ho, allS_B, hk, hw, pstE, c1]
      · cases c2 : outB p.amt
        · rw [c2] at ho
          simp [h1, h3, ho, allS_B, hk, hw, pstE, c1, c2]
          simpa using ih'
        · rw [c2] at ho
          simp [h1, h3, ho, allS_B, hk, hw, pstE, c1, c2]
end Go.Proofs.Ytgngoijehjphoaa
