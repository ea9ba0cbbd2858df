/-
  A new ledger, a balance, and the check of an entry, run abstractly.
-/
import Derived.Test.YtgngoijehjphoaaLgM
import Derived.Test.YtgngoijehjphoaaIdA
namespace Go.Proofs.Ytgngoijehjphoaa
set_option linter.unusedSimpArgs false
set_option linter.unusedVariables false
open Go Go.Abs
set_option maxHeartbeats 4000000
set_option maxRecDepth 100000
def eNm (s : ByteArray) : List D := [S s]
@[simp] theorem eNm_eq (s : ByteArray) : eNm s = [S s] := rfl
/-- The first error of accounts, behind accounts. -/
def newE (b : Bal) : List ByteArray → Int
  | [] => 0
  | a :: r => if isNm a = true then if (balO a b).isSome = true then 7 else newE (b ++ [(a, 0)]) r else 6
def newL (b : Bal) : List ByteArray → Bal
  | [] => b
  | a :: r => newL (b ++ [(a, 0)]) r
theorem dcN {l : List ByteArray} {i : Nat} {x : ByteArray} {r : List ByteArray} (h : l.drop i = x :: r) : (l.map eNm)[i]? = some (eNm x) ∧ (i : Int) < l.length ∧ l.drop (i + 1) = r := by
  have h1 : l[i]? = some x := by
    have := congrArg (fun t => t[0]?) h
    simpa using this
  have hlt := (List.getElem?_eq_some_iff.1 h1).1
  exact ⟨by rw [List.getElem?_map, h1]; rfl, by omega, by rw [← List.tail_drop, h]; rfl⟩
theorem new_loop (l : List ByteArray) (hl : l.length ≤ 1000) : ∀ (n i : Nat) (r : List ByteArray) (b : Bal), l.drop i = r → r.length < n →
    L_ledger_New 5 n ⟨[(0, .any), (2, .any), (3, .any), (4, .ptr 15 0), (6, .any), (8, .any), (16, .sl (l.map eNm)), (17, I l.length), (18, I i)], [(15, .box 57 [.mp 11500, .mp 11501, .row 11502]), (11500, .mp (b.map encB)), (11501, .mp []), (11502, .row 41 3 true [])]⟩ =
      if newE b r = 0 then some (.ex 0, ⟨[(0, .any), (2, .any), (3, .any), (4, .ptr 15 0), (6, .any), (8, .any), (16, .any), (17, .any), (18, .any)], [(15, .box 57 [.mp 11500, .mp 11501, .row 11502]), (11500, .mp ((newL b r).map encB)), (11501, .mp []), (11502, .row 41 3 true [])]⟩)
      else some (.ret, ⟨[(0, .any), (2, .x (.pointer none)), (3, I (newE b r)), (4, .any), (6, .any), (8, .any), (16, .any), (17, .any), (18, .any)], []⟩) := by
  intro n
  induction n with
  | zero => intro i r b hr hn; omega
  | succ n ih =>
    intro i r b hr hn
    rw [L_ledger_New_succ, R_ledger_New_eq]
    cases r with
    | nil =>
      have h2 : ¬ (i : Int) < l.length := by
        have := List.drop_eq_nil_iff.1 hr
        omega
      simp [h2, newE, newL]
    | cons a r =>
      obtain ⟨h1, h3, hr'⟩ := dcN hr
      have hw := wrapN (n := i) (by have := h3; omega)
      have hn1 := isName_run a
      have hlk := lookV_B a b
      have ha := allS_B b
      cases c1 : isNm a
      · rw [c1] at hn1
        simp [h1, h3, hn1, newE, c1]
      · rw [c1] at hn1
        cases c2 : balO a b with
        | some m =>
          rw [c2] at hlk
          simp [h1, h3, hn1, ha, hlk, newE, c1, c2]
        | none =>
          rw [c2] at hlk
          have hp := putM_B a 0 b
          rw [setB_new c2] at hp
          have ih' := ih (i + 1) r (b ++ [(a, 0)]) hr' (by simp at hn; omega)
          simp only [Option.getD_none, Option.isSome_none] at hlk
          simp only [Int.natCast_add, Int.cast_ofNat_Int] at ih'
          simp [h1, h3, hn1, ha, hlk, newE, newL, c1, c2, hp, hw]
          simpa using ih'
theorem balance_run (b : Bal) (ids : List (Value × Value)) (en : List (List D)) (a : ByteArray) : F_ledger_Ledger_Balance [.elt [.mpv (b.map encB), .mpv ids, .sl en], S a] = some (I ((balO a b).getD 0)) := by
  rw [F_ledger_Ledger_Balance_eq]
  have hlk := lookV_B a b
  simp [allS_B, hlk]
theorem balanceNil_run (a : ByteArray) : F_ledger_Ledger_Balance [.x (.pointer none), S a] = some (I 0) := by
  rw [F_ledger_Ledger_Balance_eq]
  simp
end Go.Proofs.Ytgngoijehjphoaa
