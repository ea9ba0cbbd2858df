/-
  The entries of a ledger and its trial balance, run abstractly.
-/
import Derived.Test.YtgngoijehjphoaaLgE
namespace Go.Proofs.Ytgngoijehjphoaa
set_option linter.unusedSimpArgs false
set_option linter.unusedVariables false
open Go Go.Abs
set_option maxHeartbeats 8000000
set_option maxRecDepth 100000
theorem dcG {α : Type} {l : List α} {i : Nat} {x : α} {r : List α} (h : l.drop i = x :: r) : l[i]? = some x ∧ (i : Int) < l.length ∧ l.drop (i + 1) = r ∧ i < l.length := by
  have h1 : l[i]? = some x := by
    have := congrArg (fun t => t[0]?) h
    simpa using this
  have hlt := (List.getElem?_eq_some_iff.1 h1).1
  exact ⟨h1, by omega, by rw [← List.tail_drop, h]; rfl, hlt⟩
theorem dnG {α : Type} {l : List α} {i : Nat} (h : l.drop i = []) : ¬ (i : Int) < l.length := by
  have := List.drop_eq_nil_iff.1 h
  omega
/-! ### The entries -/
theorem ents_loop (en : List Ent) (hl : en.length ≤ 1000000) (hp : ∀ x ∈ en, x.ps.length ≤ 1000000) : ∀ (n i : Nat) (r : List Ent) (fl : Bool) (es : List Ent), en.drop i = r → r.length < n → es.length + r.length ≤ 1000000 →
    L_ledger_Ledger_Entries 5 n ⟨[(0, .any), (2, .any), (3, .row 3), (5, .any), (11, .sl (en.map eEn)), (12, I en.length), (13, I i)], [(3, .row 41 3 fl (es.map eEn))]⟩ =
      some (.ex 0, ⟨[(0, .any), (2, .any), (3, .row 3), (5, .any), (11, .any), (12, .any), (13, .any)], [(3, .row 41 3 (fl && r.isEmpty) ((es ++ r).map eEn))]⟩) := by
  intro n
  induction n with
  | zero => intro i r fl es hr hn; omega
  | succ n ih =>
    intro i r fl es hr hn hes
    rw [L_ledger_Ledger_Entries_succ, R_ledger_Ledger_Entries_eq]
    cases r with
    | nil =>
      have h2 := dnG hr
      simp [h2]
    | cons x r =>
      obtain ⟨h1, h3, hr', hi⟩ := dcG hr
      have hw := wrapN (n := i) (by omega)
      simp only [List.length_cons] at hn hes
      have ih' := ih (i + 1) r false (es ++ [x]) hr' (by omega) (by simp; omega)
      simp only [Int.natCast_add, Int.cast_ofNat_Int] at ih'
      have hc := copyOf_run x (hp x (List.mem_of_getElem? h1))
      have hsz : (es.length + 1) * 49 ≤ 140737488355328 := by omega
      simp at hc
      simp [h1, h3, hc, hw, hsz]
      simpa using ih'
theorem ents_run (b : Bal) (ids : List ByteArray) (en : List Ent) (hl : en.length ≤ 1000000) (hp : ∀ x ∈ en, x.ps.length ≤ 1000000) : F_ledger_Ledger_Entries [.elt [.mpv (b.map encB), .mpv (ids.map encK), .sl (en.map eEn)]] = some (.own en.isEmpty (en.map eEn)) := by
  rw [F_ledger_Ledger_Entries_eq]
  have ih := ents_loop en hl hp bigL 0 en true [] rfl (by have := bigL_ge; omega) (by simpa using hl)
  simp at ih
  simp [ih]
/-! ### The trial balance -/
def trR (b : Bal) : List ByteArray → List Pst
  | [] => []
  | a :: r => if (balO a b).getD 0 = 0 then trR b r else ⟨a, (balO a b).getD 0⟩ :: trR b r
theorem keysL_B : ∀ b : Bal, keysL (b.map encB) = b.map (·.1)
  | [] => rfl
  | x :: r => by simp only [List.map_cons, encB, keysL, keysL_B r]
end Go.Proofs.Ytgngoijehjphoaa
