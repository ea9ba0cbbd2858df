/-
  RuleChecks, RuleEvals, RuleGrades, run abstractly.
-/
import Derived.Test.YtkdmoefacgbgkaaRlH
namespace Go.Proofs.Ytkdmoefacgbgkaa
set_option linter.unusedSimpArgs false
set_option linter.unusedVariables false
open Go Go.Abs
set_option maxHeartbeats 4000000
set_option maxRecDepth 100000
theorem checks_run (e : Ex) (hf : Fits e) (l : List (ByteArray × Int)) : F_law43_RuleChecks [.agg (eX e), .sl (l.map eF)] = some (B true) := by
  rw [F_law43_RuleChecks_eq]
  by_cases h1 : cnt 12 e 300 ≤ 300
  · by_cases h2 : l.length ≤ 60
    · cases h3 : shortM l with
      | false => simp [small_run e hf, h1, short_run, h2, h3, awake_run]
      | true =>
        have hn := small_nodes h1
        have u1 := Uses_run e hf (by omega)
        obtain ⟨d', hd, u2⟩ := rUses_run e hf (by omega)
        rw [uses_eq] at u1
        have hs := Same_run (addAll [] (ment 8 e)) (addAll [] (ment 8 e)) (by have := addAll_le [] (ment 8 e); have := ment_le 8 e; simp at *; omega)
        rw [sameS_refl] at hs
        simp at hs
        have hc := Check_run (nms l) (by rw [nms_length]; omega) e hf
        have hr := rCheck_run (nms l) (by rw [nms_length]; omega) e hf
        rcases hd with rfl | rfl <;> simp [small_run e hf, h1, short_run, h2, h3, awake_run, rNames_run l (by omega), hc, hr, u1, u2, hs]
    · simp [small_run e hf, h1, short_run, h2, awake_run]
  · simp [small_run e hf, h1, awake_run]
theorem evals_run (e : Ex) (hf : Fits e) (l : List (ByteArray × Int)) : F_law43_RuleEvals [.agg (eX e), .sl (l.map eF)] = some (B true) := by
  rw [F_law43_RuleEvals_eq]
  by_cases h1 : cnt 12 e 300 ≤ 300
  · by_cases h2 : l.length ≤ 60
    · cases h3 : shortM l with
      | false => simp [small_run e hf, h1, short_run, h2, h3, awake_run]
      | true =>
        have he := Eval_run l (by omega) e hf
        have hr := rEval_run l (by omega) e hf
        simp [small_run e hf, h1, short_run, h2, h3, awake_run, he, hr]
    · simp [small_run e hf, h1, short_run, h2, awake_run]
  · simp [small_run e hf, h1, awake_run]
theorem grades_run (l : List (Int × Ex)) (hf : ∀ x ∈ l, Fits x.2) (f : List (ByteArray × Int)) : F_law43_RuleGrades [.sl (l.map eR), .sl (f.map eF)] = some (B true) := by
  rw [F_law43_RuleGrades_eq]
  by_cases h1 : l.length ≤ 40
  · cases h1' : tableM l with
    | false => simp [table_run l hf, h1, h1', awake_run]
    | true =>
      by_cases h2 : f.length ≤ 60
      · cases h3 : shortM f with
        | false => simp [table_run l hf, h1, h1', short_run, h2, h3, awake_run]
        | true =>
          have hg := Grade_run f (by omega) l (by omega) hf
          have hr := rGrade_run f (by omega) l (by omega) hf
          have hc := CheckRules_run (nms f) (by rw [nms_length]; omega) l (by omega) hf
          have hd := rCheckRules_run (nms f) (by rw [nms_length]; omega) l (by omega) hf
          simp [table_run l hf, h1, h1', short_run, h2, h3, awake_run, hg, hr, hc, hd, rNames_run f (by omega)]
      · simp [table_run l hf, h1, h1', short_run, h2, awake_run]
  · simp [table_run l hf, h1, awake_run]
end Go.Proofs.Ytkdmoefacgbgkaa
