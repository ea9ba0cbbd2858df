/-
  BooksOpen: its inputs, its contract.
-/
import Derived.Test.YtgngoijehjphoaaBoJ
namespace Go.Proofs.Ytgngoijehjphoaa
set_option linter.unusedSimpArgs false
set_option linter.unusedVariables false
open Go Go.Abs
set_option maxRecDepth 100000
theorem tyU32 {n : Nat} {cs : List D} (h : TyC Try.prog n 34 cs) : ∃ v : Int, cs = [.x (.int .u32 v)] ∧ 0 ≤ v ∧ v ≤ 4294967295 := by
  obtain ⟨v, h1, h2⟩ := TyC.int Try.underlying34 h
  simp [Lit.wf, IntKind.min, IntKind.max, IntKind.signed, IntKind.bits] at h2
  exact ⟨v, h1, by omega, by omega⟩
theorem tyMv {n : Nat} {cs : List D} (h : TyC Try.prog n 36 cs) : ∃ x : Mov, cs = eMv x ∧ x.Ok := by
  obtain ⟨hl, m, h⟩ := TyC.struct Try.underlying36 h
  rw [co36] at hl
  match cs, hl with
  | [x0, x1, x2, x3, x4], _ =>
    simp at h
    obtain ⟨h0, h1, h2, h3, h4⟩ := h
    obtain ⟨a0, e0, _⟩ := TyC.int Try.underlying5 h0
    obtain ⟨a1, e1⟩ := TyC.bool Try.underlying4 h1
    obtain ⟨a2, e2, p2, q2⟩ := tyU32 h2
    obtain ⟨a3, e3, p3, q3⟩ := tyU32 h3
    obtain ⟨a4, e4, p4, q4⟩ := tyU32 h4
    injection e0 with e0; injection e1 with e1; injection e2 with e2; injection e3 with e3; injection e4 with e4
    exact ⟨⟨a0, a1, a2, a3, a4⟩, by rw [e0, e1, e2, e3, e4]; rfl, ⟨p2, q2, p3, q3, p4, q4⟩⟩
theorem tyMvs {d : D} (h : TyV Try.prog 22 d) : ∃ l : List Mov, d = .sl (l.map eMv) ∧ l.length ≤ 9223372036854775807 ∧ ∀ x ∈ l, x.Ok := by
  obtain ⟨n, h⟩ := TyV.cell ag22 h
  obtain ⟨es, m, e, hl, hx⟩ := TyC.slice Try.underlying22 h
  obtain ⟨l, rfl, hp⟩ := rows_of es (fun x hx' => tyMv (hx x hx'))
  injection e with e
  exact ⟨l, e, by simpa using hl, hp⟩
theorem booksOpen_abs (xs : List D) (h : TyArgs Try.prog Try.f3.params.toList xs) : Contract Try.prog gl 3 xs (.x (.bool true)) := by
  simp [TyArgs] at h
  obtain ⟨d, r, rfl, h1, d2, rfl, h2⟩ := h
  obtain ⟨l, rfl, hl, hok⟩ := tyMvs h1
  obtain ⟨n, h2⟩ := TyV.cell ag4 h2
  obtain ⟨o, e⟩ := TyC.bool Try.underlying4 h2
  injection e with e
  subst e
  exact C_law52_BooksOpen _ _ (open_law l hl hok o)
end Go.Proofs.Ytgngoijehjphoaa
