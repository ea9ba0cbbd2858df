/-
  The inputs of the chapter's statements.
-/
import Derived.Test.YtkdmoefacgbgkaaRlB
import Derived.Test.YtkdmoefacgbgkaaRlD
import Derived.Test.YtkdmoefacgbgkaaAbs2
namespace Go.Proofs.Ytkdmoefacgbgkaa
set_option linter.unusedSimpArgs false
set_option linter.unusedVariables false
open Go Go.Abs
set_option maxRecDepth 100000
theorem rows_of {α : Type} {enc : α → List D} {p : α → Prop} : ∀ (es : List (List D)), (∀ x ∈ es, ∃ a, x = enc a ∧ p a) → ∃ l : List α, es = l.map enc ∧ ∀ a ∈ l, p a
  | [], _ => ⟨[], rfl, by simp⟩
  | x :: r, h => by
    obtain ⟨a, ha, hp⟩ := h x (by simp)
    obtain ⟨l, hl, hq⟩ := rows_of r (fun y hy => h y (by simp [hy]))
    exact ⟨a :: l, by simp [ha, hl], by simpa using ⟨hp, hq⟩⟩
theorem tyEx : ∀ (n : Nat) (cs : List D), TyC Try.prog n 24 cs → ∃ e, cs = eX e ∧ Fits e := by
  intro n
  induction n using Nat.strongRecOn with
  | ind n ih =>
    intro cs h
    match n, h with
    | n + 1, h =>
      have h0 := h
      obtain ⟨hl, _⟩ := TyC.struct Try.underlying24 h0
      rw [co24] at hl
      match cs, hl with
      | [x0, x1, x2, x3], _ =>
        simp only [TyC, Try.underlying24] at h
        simp at h
        obtain ⟨h0, h1, h2, h3⟩ := h
        obtain ⟨a0, e0, b0⟩ := TyC.i64 Try.underlying3 h0
        obtain ⟨a1, e1, b1⟩ := TyC.i64 Try.underlying3 h1
        obtain ⟨a2, e2, b2⟩ := TyC.string Try.underlying9 h2
        match n, h3 with
        | k + 1, h3 =>
          simp only [TyC, Try.underlying22] at h3
          obtain ⟨es, e3, b3, hx⟩ := h3
          obtain ⟨l, rfl, hp⟩ := rows_of (enc := eX) es (fun x hx' => ih k (by omega) x (hx x hx'))
          injection e0 with e0; injection e1 with e1; injection e2 with e2; injection e3 with e3
          refine ⟨.mk a0 a1 a2 l, ?_, .mk b0 b1 b2 (by simpa [maxLen, Ex.args] using b3) hp⟩
          rw [eX_eq, e0, e1, e2, e3]
          rfl
theorem tyExV {d : D} (h : TyV Try.prog 24 d) : ∃ e, d = .agg (eX e) ∧ Fits e := by
  obtain ⟨n, cs, rfl, hc⟩ := TyV.agg ag24 h
  obtain ⟨e, rfl, hf⟩ := tyEx n cs hc
  exact ⟨e, rfl, hf⟩
/-- A feature that fits into a machine. -/
def FitsF (f : ByteArray × Int) : Prop := f.1.size ≤ 9223372036854775807 ∧ -9223372036854775808 ≤ f.2 ∧ f.2 ≤ 9223372036854775807
theorem tyFeature {n : Nat} {cs : List D} (h : TyC Try.prog n 46 cs) : ∃ f : ByteArray × Int, cs = eF f ∧ FitsF f := by
  obtain ⟨hl, m, h⟩ := TyC.struct Try.underlying46 h
  rw [co46] at hl
  match cs, hl with
  | [x0, x1], _ =>
    simp at h
    obtain ⟨h0, h1⟩ := h
    obtain ⟨a0, e0, b0⟩ := TyC.string Try.underlying9 h0
    obtain ⟨a1, e1, b1⟩ := TyC.i64 Try.underlying3 h1
    injection e0 with e0; injection e1 with e1
    exact ⟨(a0, a1), by rw [e0, e1]; rfl, b0, b1⟩
theorem tyFeatures {d : D} (h : TyV Try.prog 25 d) : ∃ l : List (ByteArray × Int), d = .sl (l.map eF) ∧ l.length ≤ 9223372036854775807 ∧ ∀ f ∈ l, FitsF f := by
  obtain ⟨n, h⟩ := TyV.cell ag25 h
  obtain ⟨es, m, e, hl, hx⟩ := TyC.slice Try.underlying25 h
  obtain ⟨l, rfl, hp⟩ := rows_of es (fun x hx' => tyFeature (hx x hx'))
  injection e with e
  exact ⟨l, e, by simpa using hl, hp⟩
theorem tyRule {n : Nat} {cs : List D} (h : TyC Try.prog n 49 cs) : ∃ r : Int × Ex, cs = eR r ∧ (Fits r.2 ∧ -9223372036854775808 ≤ r.1 ∧ r.1 ≤ 9223372036854775807) := by
  obtain ⟨hl, m, h⟩ := TyC.struct Try.underlying49 h
  rw [co49] at hl
  match cs, hl with
  | [x0, x1, x2, x3, x4], _ =>
    simp at h
    obtain ⟨h0, h1⟩ := h
    obtain ⟨a0, e0, b0⟩ := TyC.i64 Try.underlying3 h0
    obtain ⟨e, he, hf⟩ := tyEx m _ h1
    injection e0 with e0
    exact ⟨(a0, e), by rw [e0, he]; rfl, hf, b0⟩
theorem tyRules {d : D} (h : TyV Try.prog 38 d) : ∃ l : List (Int × Ex), d = .sl (l.map eR) ∧ l.length ≤ 9223372036854775807 ∧ ∀ r ∈ l, Fits r.2 ∧ -9223372036854775808 ≤ r.1 ∧ r.1 ≤ 9223372036854775807 := by
  obtain ⟨n, h⟩ := TyV.cell ag38 h
  obtain ⟨es, m, e, hl, hx⟩ := TyC.slice Try.underlying38 h
  obtain ⟨l, rfl, hp⟩ := rows_of es (fun x hx' => tyRule (hx x hx'))
  injection e with e
  exact ⟨l, e, by simpa using hl, hp⟩
end Go.Proofs.Ytkdmoefacgbgkaa
