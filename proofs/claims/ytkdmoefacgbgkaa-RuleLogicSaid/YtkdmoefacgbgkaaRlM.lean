/-
  RuleLogic, run abstractly: numbers, and conditions.
-/
import Derived.Test.YtkdmoefacgbgkaaRlL
namespace Go.Proofs.Ytkdmoefacgbgkaa
set_option linter.unusedSimpArgs false
set_option linter.unusedVariables false
open Go Go.Abs
set_option maxHeartbeats 4000000
set_option maxRecDepth 100000
theorem logic_numbers {a b : Ex} {l : List (ByteArray × Int)} {x y n m k : Int} (h : LogicFacts a b l x y 27 27)
    (n4 : F_rule_Eval [.agg (eX (xTwo 7 a b)), .sl (l.map eF)] = some (.tup [I n, I 0])) (n5 : F_rule_Eval [.agg (eX (xNot (xTwo 8 b a))), .sl (l.map eF)] = some (.tup [I m, I 0])) (n6 : F_rule_Eval [.agg (eX (xTwo 6 a b)), .sl (l.map eF)] = some (.tup [I k, I 0]))
    (hm : n = m) (h1 : decide (n = 1) = decide (x < y)) (h4 : decide (k = 1) = decide (x = y)) : F_law43_RuleLogic [.agg (eX a), .agg (eX b), .sl (l.map eF)] = some (B true) := by
  rw [F_law43_RuleLogic_eq]
  obtain ⟨c1, c2, ha, hb, h2, h3, ea, eb, ka', kb'⟩ := h
  subst hm
  simp [c1, c2, ha, hb, short_run, h2, h3, ea, eb, ka', kb', rNames_run l (by omega), not_run, two_run, fold1, fold2, n4, n5, n6, awake_run]
  simp at h1 h4
  exact ⟨h1, h4⟩
theorem logic_conds {a b : Ex} {l : List (ByteArray × Int)} {x y n p q : Int} (h : LogicFacts a b l x y 0 0)
    (n1 : F_rule_Eval [.agg (eX (xNot a)), .sl (l.map eF)] = some (.tup [I n, I 0])) (n2 : F_rule_Eval [.agg (eX (xTwo 10 a b)), .sl (l.map eF)] = some (.tup [I p, I 0])) (n3 : F_rule_Eval [.agg (eX (xTwo 11 a b)), .sl (l.map eF)] = some (.tup [I q, I 0]))
    (hw : IntKind.i64.wrap (1 - x) = n) (hp : p = if y < x then y else x) (hq : q = if x < y then y else x) : F_law43_RuleLogic [.agg (eX a), .agg (eX b), .sl (l.map eF)] = some (B true) := by
  rw [F_law43_RuleLogic_eq]
  obtain ⟨c1, c2, ha, hb, h2, h3, ea, eb, ka', kb'⟩ := h
  simp [c1, c2, ha, hb, short_run, h2, h3, ea, eb, ka', kb', rNames_run l (by omega), not_run, two_run, fold1, fold2, n1, n2, n3, hw, ← hp, ← hq, awake_run]
end Go.Proofs.Ytkdmoefacgbgkaa
