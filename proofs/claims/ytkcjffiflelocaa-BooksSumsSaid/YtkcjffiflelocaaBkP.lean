/-
  The statement BooksCuts, proved for every input.
-/
import Derived.Test.YtkcjffiflelocaaBkF
import Derived.Test.YtkcjffiflelocaaAbsU
import Derived.ProofKit
namespace Go.Proofs.Ytkcjffiflelocaa
open Go Go.Abs Go.ChangeShapes Go.WideShapes Go.ChangeAt Go.RowKit
set_option maxRecDepth 100000

theorem own : ownKnob Try.prog.godebug = none := by kernel_rfl
theorem tyYield {d : D} (h : TyV Try.prog 23 d) : ∃ a b c e v : Int, d = .agg [I a, I b, I c, I e, I v] := by
  obtain ⟨n, cs, rfl, hc⟩ := TyV.agg ag23 h; clear h
  obtain ⟨hl, m, h⟩ := TyC.struct Try.underlying23 hc
  have c1 : Try.prog.cellsOf 23 = 5 := by kernel_rfl
  have c2 : Try.prog.cellsOf 3 = 1 := by kernel_rfl
  rw [c1] at hl
  match cs, hl with
  | [x0, x1, x2, x3, x4], _ =>
    simp [c2] at h
    obtain ⟨h0, h1, h2, h3, h4⟩ := h
    obtain ⟨a0, e0, _⟩ := TyC.i64 Try.underlying3 h0
    obtain ⟨a1, e1, _⟩ := TyC.i64 Try.underlying3 h1
    obtain ⟨a2, e2, _⟩ := TyC.i64 Try.underlying3 h2
    obtain ⟨a3, e3, _⟩ := TyC.i64 Try.underlying3 h3
    obtain ⟨a4, e4, _⟩ := TyC.i64 Try.underlying3 h4
    injection e0 with e0; injection e1 with e1; injection e2 with e2; injection e3 with e3; injection e4 with e4
    exact ⟨a0, a1, a2, a3, a4, by rw [e0, e1, e2, e3, e4]⟩
theorem tyCutting {d : D} (h : TyV Try.prog 25 d) : ∃ (k : Bool) (a b c : Int), d = .agg [B k, I a, I b, I c] := by
  obtain ⟨n, cs, rfl, hc⟩ := TyV.agg ag25 h; clear h
  obtain ⟨hl, m, h⟩ := TyC.struct Try.underlying25 hc
  have c1 : Try.prog.cellsOf 25 = 4 := by kernel_rfl
  have c2 : Try.prog.cellsOf 3 = 1 := by kernel_rfl
  have c3 : Try.prog.cellsOf 4 = 1 := by kernel_rfl
  rw [c1] at hl
  match cs, hl with
  | [x0, x1, x2, x3], _ =>
    simp [c2, c3] at h
    obtain ⟨h0, h1, h2, h3⟩ := h
    obtain ⟨a0, e0⟩ := TyC.bool Try.underlying4 h0
    obtain ⟨a1, e1, _⟩ := TyC.i64 Try.underlying3 h1
    obtain ⟨a2, e2, _⟩ := TyC.i64 Try.underlying3 h2
    obtain ⟨a3, e3, _⟩ := TyC.i64 Try.underlying3 h3
    injection e0 with e0; injection e1 with e1; injection e2 with e2; injection e3 with e3
    exact ⟨a0, a1, a2, a3, by rw [e0, e1, e2, e3]⟩

theorem booksCuts_abs (xs : List D) (h : TyArgs Try.prog Try.f3.params.toList xs) : Contract Try.prog 3 xs (.x (.bool true)) := by
  simp [TyArgs] at h
  obtain ⟨d, r, rfl, h1, d', rfl, h2⟩ := h
  obtain ⟨a, b, c, e, v, rfl⟩ := tyYield h1
  obtain ⟨k, x, y, z, rfl⟩ := tyCutting h2
  exact C_law52_BooksCuts _ _ (cuts_run a b c e v k x y z)
theorem closed : okS Try.prog [23, 25, 3, 4] = true := by kernel_rfl
theorem booksCuts_types : ∀ t ∈ Try.f3.params.toList, t ∈ [23, 25, 3, 4] ∧ Try.prog.readableRec t = true ∧ t < Try.prog.types.size := by
  have e : Try.f3.params.toList = [23, 25] := rfl
  rw [e]
  intro t ht
  simp at ht
  rcases ht with rfl | rfl
  · exact ⟨by simp, by kernel_rfl, by decide +kernel⟩
  · exact ⟨by simp, by kernel_rfl, by decide +kernel⟩
theorem booksCuts_lifted (os : Os) (started : os.Started) (H : Type) (enc : TypeId × Value → H) :
    ReturnsInHanded {} Try.checked os 3 .any (Rows.booksCutsSpec.pre6 enc Try.prog Try.f3 Rows.booksCutsRow.domain false) (Rows.booksCutsSpec.post enc Try.prog Try.f3 false true false false) := by
  refine returnsInHanded_of_change (C := Try.checked) own started (by kernel_rfl) Try.func3
    (ChangeSpec.witness6 (enc := enc) (C := Try.checked) false ⟨#[], #[.agg #[.int .i64 0, .int .i64 0, .int .i64 0, .int .i64 0, .int .i64 0], .agg #[.bool false, .int .i64 0, .int .i64 0, .int .i64 0]], []⟩ 8 (by kernel_rfl) (by kernel_rfl) (by kernel_rfl) (by kernel_rfl)) ?_
  intro W base args ds gs before hval0 hW hcnd _
  exact law_calls laid closed booksCuts_types Try.underlying4 rfl rfl booksCuts_abs hval0 hW (fun l hl => by
    match l, hl with
    | [d1, d2], _ => rfl)

theorem booksCuts_holds : Rows.BooksCutsSaid :=
  OpenClaim.holds_of_wide 3 Try.f3 rfl rfl rfl rfl rfl rfl rfl ⟨rfl, rfl, rfl, rfl, rfl⟩ rfl rfl rfl rfl rfl (by kernel_rfl) Try.func3 (by kernel_rfl)
    (of_decide_eq_true (by kernel_rfl)) (by unfold Func.isWrapper; first | (rw [if_pos (by decide +kernel)]; kernel_rfl) | (rw [if_neg (by decide +kernel)]; exact ⟨rfl, rfl⟩))
    (fun os started H enc _ => booksCuts_lifted os started H enc)
#print axioms booksCuts_holds
end Go.Proofs.Ytkcjffiflelocaa
