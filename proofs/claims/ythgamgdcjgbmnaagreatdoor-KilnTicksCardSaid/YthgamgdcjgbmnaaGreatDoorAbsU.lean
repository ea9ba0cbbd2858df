/-
  What an abstract input of a type looks like, type by type.
-/
import Derived.Test.YthgamgdcjgbmnaaGreatDoorAbsT
namespace Go.Abs
set_option linter.unusedSimpArgs false
set_option linter.unusedVariables false
open Go
section
variable {P : Program} {n : Nat} {t e : TypeId} {cs : List D}
theorem TyC.int {k : IntKind} (hu : P.underlying t = some (.int k)) (h : TyC P n t cs) : ∃ v, cs = [.x (.int k v)] ∧ (Lit.int k v).wf = true := by
  cases n with
  | zero => exact absurd h (by simp [TyC])
  | succ n => unfold TyC at h; rw [hu] at h; exact h
theorem TyC.i64 (hu : P.underlying t = some (.int .i64)) (h : TyC P n t cs) : ∃ v : Int, cs = [.x (.int .i64 v)] ∧ -9223372036854775808 ≤ v ∧ v ≤ 9223372036854775807 := by
  obtain ⟨v, h1, h2⟩ := TyC.int hu h
  simp [Lit.wf, IntKind.min, IntKind.max, IntKind.signed, IntKind.bits] at h2
  exact ⟨v, h1, by omega, by omega⟩
theorem TyC.bool (hu : P.underlying t = some .bool) (h : TyC P n t cs) : ∃ b, cs = [.x (.bool b)] := by
  cases n with
  | zero => exact absurd h (by simp [TyC])
  | succ n => unfold TyC at h; rw [hu] at h; exact h
theorem TyC.string (hu : P.underlying t = some .string) (h : TyC P n t cs) : ∃ s : ByteArray, cs = [.x (.string s)] ∧ s.size ≤ 9223372036854775807 := by
  cases n with
  | zero => exact absurd h (by simp [TyC])
  | succ n => unfold TyC at h; rw [hu] at h; exact h
theorem TyC.slice (hu : P.underlying t = some (.slice e)) (h : TyC P n t cs) : ∃ (es : List (List D)) (m : Nat), cs = [.sl es] ∧ es.length ≤ 9223372036854775807 ∧ ∀ x ∈ es, TyC P m e x := by
  cases n with
  | zero => exact absurd h (by simp [TyC])
  | succ n =>
    unfold TyC at h
    rw [hu] at h
    obtain ⟨es, h1, h2, h3⟩ := h
    exact ⟨es, n, h1, h2, h3⟩
theorem TyC.struct {fs : Array Field} (hu : P.underlying t = some (.struct fs)) (h : TyC P n t cs) : cs.length = P.cellsOf t ∧ ∃ m, ∀ f ∈ fs.toList, TyC P m f.type ((cs.drop f.offset).take (P.cellsOf f.type)) := by
  cases n with
  | zero => exact absurd h (by simp [TyC])
  | succ n => unfold TyC at h; rw [hu] at h; exact ⟨h.1, n, h.2⟩
theorem TyC.array {m : Nat} (hu : P.underlying t = some (.array m e)) (h : TyC P n t cs) : cs.length = P.cellsOf t ∧ ∃ k, ∀ i, i < m → TyC P k e ((cs.drop (i * P.cellsOf e)).take (P.cellsOf e)) := by
  cases n with
  | zero => exact absurd h (by simp [TyC])
  | succ n => unfold TyC at h; rw [hu] at h; exact ⟨h.1, n, h.2⟩
/-- A value that is no struct and no array. -/
theorem TyV.cell {d : D} (ha : aggT P t = some false) (h : TyV P t d) : ∃ n, TyC P n t [d] := by
  obtain ⟨n, cs, h1, h2⟩ := h
  unfold aggT at ha
  split at ha
  · cases ha
  · cases ha
  · rename_i d' h3 h4 h5
    rw [h5] at h2
    split at h2
    · rename_i fs he
      injection he with he
      exact absurd he (h3 fs)
    · rename_i m e he
      injection he with he
      exact absurd he (h4 m e)
    · subst h2; exact ⟨n, h1⟩
  · cases ha
theorem TyV.agg {d : D} (ha : aggT P t = some true) (h : TyV P t d) : ∃ n cs, d = .agg cs ∧ TyC P n t cs := by
  obtain ⟨n, cs, h1, h2⟩ := h
  unfold aggT at ha
  split at ha
  · rename_i h3; rw [h3] at h2; exact ⟨n, cs, h2, h1⟩
  · rename_i h3; rw [h3] at h2; exact ⟨n, cs, h2, h1⟩
  · cases ha
  · cases ha
end
end Go.Abs
