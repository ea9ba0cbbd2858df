/-
  RuleLogic, run abstractly.
-/
import Derived.Test.YtkdmoefacgbgkaaRlH
import Derived.Test.YtkdmoefacgbgkaaRlJ
namespace Go.Proofs.Ytkdmoefacgbgkaa
set_option linter.unusedSimpArgs false
set_option linter.unusedVariables false
open Go Go.Abs
set_option maxHeartbeats 4000000
set_option maxRecDepth 100000
theorem mk_op (op n : Int) (s : ByteArray) (l : List Ex) : (Ex.mk op n s l).op = op := rfl
theorem mk_n (op n : Int) (s : ByteArray) (l : List Ex) : (Ex.mk op n s l).n = n := rfl
theorem mk_name (op n : Int) (s : ByteArray) (l : List Ex) : (Ex.mk op n s l).name = s := rfl
theorem mk_args (op n : Int) (s : ByteArray) (l : List Ex) : (Ex.mk op n s l).args = l := rfl
theorem vis_two {ns : List ByteArray} {k : Nat} {op : Int} {a b : Ex} (ha : vis ns k a = 0) (hb : vis ns k b = 0) (ho : 3 ≤ op ∧ op ≤ 11 ∧ op ≠ 9) : vis ns (k + 1) (xTwo op a b) = if isC a.op = takesC op ∧ isC b.op = takesC op then 0 else 27 := by
  have h1 : ¬ op = 1 := by omega
  have h2 : ¬ op = 2 := by omega
  have h9 : ¬ op = 9 := by omega
  have h3 : ¬ op < 1 := by omega
  have h4 : ¬ 11 < op := by omega
  simp only [vis, mk_args, firstE, ha, hb, if_true, node, mk_op, mk_n, mk_name, takesN, h1, h2, h3, h4, h9, or_self, if_false, ne_eq, not_true_eq_false, false_and, anyBad]
  by_cases g1 : isC a.op = takesC op <;> by_cases g2 : isC b.op = takesC op <;> simp [g1, g2]
theorem vis_not {ns : List ByteArray} {k : Nat} {a : Ex} (ha : vis ns k a = 0) : vis ns (k + 1) (xNot a) = if isC a.op = true then 0 else 27 := by
  simp only [vis, mk_args, firstE, ha, if_true, node, mk_op, mk_n, mk_name, takesN, anyBad, takesC]
  by_cases g1 : isC a.op = true <;> simp [g1]
/-- What the evaluations of a law give, as facts for its run. -/
structure LogicFacts (a b : Ex) (l : List (ByteArray × Int)) (x y ka kb : Int) : Prop where
  c1 : F_law43_count [.agg (eX a), I 6, I 100] = some (I (cnt 6 a 100))
  c2 : F_law43_count [.agg (eX b), I 6, I 100] = some (I (cnt 6 b 100))
  ha : ¬ 100 < cnt 6 a 100
  hb : ¬ 100 < cnt 6 b 100
  h2 : l.length ≤ 60
  h3 : shortM l = true
  ea : F_rule_Eval [.agg (eX a), .sl (l.map eF)] = some (.tup [I x, I 0])
  eb : F_rule_Eval [.agg (eX b), .sl (l.map eF)] = some (.tup [I y, I 0])
  ka : F_rule_Check [.agg (eX a), .sl ((nms l).map eS)] = some (I ka)
  kb : F_rule_Check [.agg (eX b), .sl ((nms l).map eS)] = some (I kb)
theorem logic_mixed {a b : Ex} {l : List (ByteArray × Int)} {x y ka kb : Int} (h : LogicFacts a b l x y ka kb) (hk : ka = 0 ∧ kb = 27 ∨ ka = 27 ∧ kb = 0)
    (n2 : F_rule_Eval [.agg (eX (xTwo 10 a b)), .sl (l.map eF)] = some (.tup [I 0, I 27])) (n4 : F_rule_Eval [.agg (eX (xTwo 7 a b)), .sl (l.map eF)] = some (.tup [I 0, I 27])) :
    F_law43_RuleLogic [.agg (eX a), .agg (eX b), .sl (l.map eF)] = some (B true) := by
  rw [F_law43_RuleLogic_eq]
  obtain ⟨c1, c2, ha, hb, h2, h3, ea, eb, ka', kb'⟩ := h
  rcases hk with ⟨rfl, rfl⟩ | ⟨rfl, rfl⟩ <;> simp [c1, c2, ha, hb, short_run, h2, h3, ea, eb, ka', kb', rNames_run l (by omega), two_run, fold2, n2, n4, awake_run]
theorem logic_out {a b : Ex} {l : List (ByteArray × Int)} (c1 : F_law43_count [.agg (eX a), I 6, I 100] = some (I (cnt 6 a 100))) (c2 : F_law43_count [.agg (eX b), I 6, I 100] = some (I (cnt 6 b 100)))
    (h : 100 < cnt 6 a 100 ∨ 100 < cnt 6 b 100 ∨ (if l.length ≤ 60 then shortM l else false) = false) : F_law43_RuleLogic [.agg (eX a), .agg (eX b), .sl (l.map eF)] = some (B true) := by
  rw [F_law43_RuleLogic_eq]
  by_cases ha : 100 < cnt 6 a 100
  · simp [c1, ha, awake_run]
  by_cases hb : 100 < cnt 6 b 100
  · simp [c1, c2, ha, hb, awake_run]
  have h := (h.resolve_left ha).resolve_left hb
  have hs := short_run l
  rw [h] at hs
  simp [c1, c2, ha, hb, hs, awake_run]
theorem logic_err {a b : Ex} {l : List (ByteArray × Int)} (c1 : F_law43_count [.agg (eX a), I 6, I 100] = some (I (cnt 6 a 100))) (c2 : F_law43_count [.agg (eX b), I 6, I 100] = some (I (cnt 6 b 100)))
    (ha : ¬ 100 < cnt 6 a 100) (hb : ¬ 100 < cnt 6 b 100) (hs : F_law43_short [.sl (l.map eF)] = some (B true)) {x y e f : Int}
    (ea : F_rule_Eval [.agg (eX a), .sl (l.map eF)] = some (.tup [I x, I e])) (eb : F_rule_Eval [.agg (eX b), .sl (l.map eF)] = some (.tup [I y, I f])) (h : ¬ e = 0 ∨ ¬ f = 0) : F_law43_RuleLogic [.agg (eX a), .agg (eX b), .sl (l.map eF)] = some (B true) := by
  rw [F_law43_RuleLogic_eq]
  by_cases he : e = 0
  · have hf := h.resolve_left (fun g => g he)
    simp [c1, c2, ha, hb, hs, ea, eb, he, hf, awake_run]
  · simp [c1, c2, ha, hb, hs, ea, eb, he, awake_run]
end Go.Proofs.Ytkdmoefacgbgkaa
