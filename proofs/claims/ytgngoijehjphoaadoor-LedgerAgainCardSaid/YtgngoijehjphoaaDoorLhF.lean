/-
  The inputs of the chapter's statements; their contracts.
-/
import Derived.Test.YtgngoijehjphoaaDoorCvV
import Derived.Test.YtgngoijehjphoaaDoorLhB
import Derived.Test.YtgngoijehjphoaaDoorLhC
import Derived.Test.YtgngoijehjphoaaDoorLhE
namespace Go.Proofs.YtgngoijehjphoaaDoor
set_option linter.unusedSimpArgs false
set_option linter.unusedVariables false
open Go Go.Abs
set_option maxRecDepth 100000
theorem tyPs {n : Nat} {cs : List D} (h : TyC Tryd.prog n 47 cs) : ∃ x : Pst, cs = ePs x ∧ True := by
  obtain ⟨hl, m, h⟩ := TyC.struct Tryd.underlying47 h
  rw [co47] at hl
  match cs, hl with
  | [y0, y1], _ =>
    simp at h
    obtain ⟨h_0, h_1⟩ := h
    obtain ⟨a0, e0, b0⟩ := TyC.string Tryd.underlying9 h_0
    obtain ⟨a1, e1, b1⟩ := tyInt h_1
    injection e0 with e0; injection e1 with e1
    exact ⟨⟨a0, a1⟩, by rw [e0, e1]; rfl, trivial⟩
theorem tyEn {n : Nat} {cs : List D} (h : TyC Tryd.prog n 41 cs) : ∃ x : Ent, cs = eEn x ∧ True := by
  obtain ⟨hl, m, h⟩ := TyC.struct Tryd.underlying41 h
  rw [co41] at hl
  match cs, hl with
  | [y0, y1, y2], _ =>
    simp at h
    obtain ⟨h_0, h_1, h_2⟩ := h
    obtain ⟨a0, e0, b0⟩ := TyC.string Tryd.underlying9 h_0
    obtain ⟨a1, e1, b1⟩ := tyInt h_1
    obtain ⟨s2, m2, e2, l2, x2'⟩ := TyC.slice Tryd.underlying39 h_2
    obtain ⟨a2, rfl, b2⟩ := rows_of s2 (fun x hx' => tyPs (x2' x hx'))
    injection e0 with e0; injection e1 with e1; injection e2 with e2
    exact ⟨⟨a0, a1, a2⟩, by rw [e0, e1, e2]; rfl, trivial⟩
theorem tyNm {n : Nat} {cs : List D} (h : TyC Tryd.prog n 9 cs) : ∃ s : ByteArray, cs = eNm s ∧ True := by
  obtain ⟨s, e, _⟩ := TyC.string Tryd.underlying9 h
  exact ⟨s, e, trivial⟩
theorem tyStr {d : D} (h : TyV Tryd.prog 9 d) : ∃ s : ByteArray, d = S s := by
  obtain ⟨n, h⟩ := TyV.cell ag9 h
  obtain ⟨s, e, _⟩ := TyC.string Tryd.underlying9 h
  injection e with e
  exact ⟨s, e⟩
theorem tyNms {d : D} (h : TyV Tryd.prog 22 d) : ∃ l : List ByteArray, d = .sl (l.map eNm) ∧ l.length ≤ 9223372036854775807 := by
  obtain ⟨n, h⟩ := TyV.cell ag22 h
  obtain ⟨es, m, e, hl, hx⟩ := TyC.slice Tryd.underlying22 h
  obtain ⟨l, rfl, _⟩ := rows_of es (fun x hx' => tyNm (hx x hx'))
  injection e with e
  exact ⟨l, e, by simpa using hl⟩
theorem tyEns {d : D} (h : TyV Tryd.prog 29 d) : ∃ l : List Ent, d = .sl (l.map eEn) ∧ l.length ≤ 9223372036854775807 := by
  obtain ⟨n, h⟩ := TyV.cell ag29 h
  obtain ⟨es, m, e, hl, hx⟩ := TyC.slice Tryd.underlying29 h
  obtain ⟨l, rfl, _⟩ := rows_of es (fun x hx' => tyEn (hx x hx'))
  injection e with e
  exact ⟨l, e, by simpa using hl⟩
theorem tyEnt {d : D} (h : TyV Tryd.prog 41 d) : ∃ x : Ent, d = .agg (eEn x) := by
  obtain ⟨n, cs, rfl, hc⟩ := TyV.agg ag41 h
  obtain ⟨x, rfl, _⟩ := tyEn hc
  exact ⟨x, rfl⟩
theorem ledgerMakes_abs (xs : List D) (h : TyArgs Tryd.prog Tryd.f3.params.toList xs) : Contract Tryd.prog gl 3 xs (.x (.bool true)) := by
  simp [TyArgs] at h
  obtain ⟨d, r, rfl, h1, d2, rfl, h2⟩ := h
  obtain ⟨l, rfl, hl⟩ := tyNms h1
  obtain ⟨o, rfl⟩ := tyStr h2
  exact C_law51_LedgerMakes _ _ (makes_law l o hl)
theorem ledgerPosts_abs (xs : List D) (h : TyArgs Tryd.prog Tryd.f4.params.toList xs) : Contract Tryd.prog gl 4 xs (.x (.bool true)) := by
  simp [TyArgs] at h
  obtain ⟨d, r, rfl, h1, d2, rfl, h2⟩ := h
  obtain ⟨l, rfl, hl⟩ := tyNms h1
  obtain ⟨en, rfl, he⟩ := tyEns h2
  exact C_law51_LedgerPosts _ _ (posts_law l en hl he)
theorem ledgerZero_abs (xs : List D) (h : TyArgs Tryd.prog Tryd.f5.params.toList xs) : Contract Tryd.prog gl 5 xs (.x (.bool true)) := by
  simp [TyArgs] at h
  obtain ⟨d, r, rfl, h1, d2, rfl, h2⟩ := h
  obtain ⟨l, rfl, hl⟩ := tyNms h1
  obtain ⟨en, rfl, he⟩ := tyEns h2
  exact C_law51_LedgerZero _ _ (zero_law l en hl he)
theorem ledgerRefuses_abs (xs : List D) (h : TyArgs Tryd.prog Tryd.f6.params.toList xs) : Contract Tryd.prog gl 6 xs (.x (.bool true)) := by
  simp [TyArgs] at h
  obtain ⟨d, r, rfl, h1, d2, rfl, h2⟩ := h
  obtain ⟨l, rfl, hl⟩ := tyNms h1
  obtain ⟨en, rfl, he⟩ := tyEns h2
  exact C_law51_LedgerRefuses _ _ (refuses_law l en hl he)
theorem ledgerAgain_abs (xs : List D) (h : TyArgs Tryd.prog Tryd.f7.params.toList xs) : Contract Tryd.prog gl 7 xs (.x (.bool true)) := by
  simp [TyArgs] at h
  obtain ⟨d, r, rfl, h1, d2, rfl, h2⟩ := h
  obtain ⟨l, rfl, hl⟩ := tyNms h1
  obtain ⟨en, rfl, he⟩ := tyEns h2
  exact C_law51_LedgerAgain _ _ (again_law l en hl he)
theorem ledgerNone_abs (xs : List D) (h : TyArgs Tryd.prog Tryd.f8.params.toList xs) : Contract Tryd.prog gl 8 xs (.x (.bool true)) := by
  simp [TyArgs] at h
  obtain ⟨d, rfl, h1⟩ := h
  obtain ⟨x, rfl⟩ := tyEnt h1
  exact C_law51_LedgerNone _ _ (none_law x)
end Go.Proofs.YtgngoijehjphoaaDoor
