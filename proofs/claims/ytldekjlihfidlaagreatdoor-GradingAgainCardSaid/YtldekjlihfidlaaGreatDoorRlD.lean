/-
  Eval, Check, CheckRules and Grade, run abstractly: in the program and in the reference.
-/
import Derived.Test.YtldekjlihfidlaaGreatDoorRlC
namespace Go.Proofs.YtldekjlihfidlaaGreatDoor.Rl
set_option linter.unusedSimpArgs false
set_option linter.unusedVariables false
open Go Go.Abs
set_option maxHeartbeats 4000000
set_option maxRecDepth 100000
/-- The value of any expression, or its error. -/
def evalM (l : List (ByteArray × Int)) (e : Ex) : Int × Int := if vis (nms l) 8 e = 0 then val l 8 e else (0, vis (nms l) 8 e)
def checkM (ns : List ByteArray) (e : Ex) : Int := if vis ns 8 e = 0 then (if isC e.op = true then 0 else 27) else vis ns 8 e
theorem Fvisit_run (ns : List ByteArray) (hns : ns.length ≤ 9223372036854775807) (e : Ex) (hf : Fits e) : F_rule_visit [.agg (eX e), .sl (ns.map eS), I 1] = some (I (vis ns 8 e)) :=
  visit_run ns hns 8 1000 e 1 hf (by omega) (by omega) (by omega)
theorem Fcheck_run (ns : List ByteArray) (hns : ns.length ≤ 9223372036854775807) (e : Ex) (hf : Fits e) : F_ref43_check [.agg (eX e), .sl (ns.map eS), I 1] = some (I (vis ns 8 e)) :=
  check_run ns hns 8 1000 e 1 hf (by omega) (by omega) (by omega)
theorem Fvalue_run (l : List (ByteArray × Int)) (hl : l.length ≤ 1000000) {ns : List ByteArray} {e : Ex} (h : vis ns 8 e = 0) : F_rule_value [.agg (eX e), .sl (l.map eF)] = some (T2 (val l 8 e)) := value_run l hl ns 8 1000 e h (by omega)
theorem Frvalue_run (l : List (ByteArray × Int)) (hl : l.length ≤ 1000000) {ns : List ByteArray} {e : Ex} (h : vis ns 8 e = 0) : F_ref43_value [.agg (eX e), .sl (l.map eF)] = some (T2 (val l 8 e)) := rvalue_run l hl ns 8 1000 e h (by omega)
theorem Check_run (ns : List ByteArray) (hns : ns.length ≤ 9223372036854775807) (e : Ex) (hf : Fits e) : F_rule_Check [.agg (eX e), .sl (ns.map eS)] = some (I (checkM ns e)) := by
  rw [F_rule_Check_eq]
  have hv := Fvisit_run ns hns e hf
  by_cases h : vis ns 8 e = 0 <;> by_cases hc : isC e.op = true <;> simp [hv, h, isCondition_run, hc, checkM]
theorem rCheck_run (ns : List ByteArray) (hns : ns.length ≤ 9223372036854775807) (e : Ex) (hf : Fits e) : F_ref43_Check [.agg (eX e), .sl (ns.map eS)] = some (I (checkM ns e)) := by
  rw [F_ref43_Check_eq]
  have hv := Fcheck_run ns hns e hf
  by_cases h : vis ns 8 e = 0 <;> by_cases hc : isC e.op = true <;> simp [hv, h, condition_run, hc, checkM]
/-- A rule's cells. -/
def eR (r : Int × Ex) : List D := I r.1 :: eX r.2
@[simp] theorem eR_eq (r : Int × Ex) : eR r = I r.1 :: eX r.2 := rfl
/-- The first error of rules. -/
def rulesE (ns : List ByteArray) : List (Int × Ex) → Int
  | [] => 0
  | r :: l => if r.1 < 0 ∨ 9 < r.1 then 26 else if checkM ns r.2 = 0 then rulesE ns l else checkM ns r.2
def checkRulesM (ns : List ByteArray) (l : List (Int × Ex)) : Int := if 32 < l.length then 4 else rulesE ns l
theorem CheckRules_loop (ns : List ByteArray) (hns : ns.length ≤ 9223372036854775807) (l : List (Int × Ex)) (hl : l.length ≤ 1000) (hf : ∀ x ∈ l, Fits x.2) : ∀ (n i : Nat) (r : List (Int × Ex)), l.drop i = r → r.length < n →
    L_rule_CheckRules 4 n ⟨[(0, .any), (1, .sl (ns.map eS)), (4, .any), (6, .any), (7, .any), (11, .sl (l.map eR)), (12, I l.length), (13, I i)], []⟩ =
      if rulesE ns r = 0 then some (.ex 0, ⟨[(0, .any), (1, .any), (4, .any), (6, .any), (7, .any), (11, .any), (12, .any), (13, .any)], []⟩) else some (.ret, ⟨[(0, .any), (1, .any), (4, I (rulesE ns r)), (6, .any), (7, .any), (11, .any), (12, .any), (13, .any)], []⟩)
  | 0, _, _, _, hn => by omega
  | n + 1, i, [], hr, hn => by
    rw [L_rule_CheckRules_succ, R_rule_CheckRules_eq]
    simp [dn hr, rulesE]
  | n + 1, i, x :: r, hr, hn => by
    rw [L_rule_CheckRules_succ, R_rule_CheckRules_eq]
    obtain ⟨h1, h3, hr', hi⟩ := dc (enc := eR) hr
    have hw := wrapN (n := i) (by omega)
    have ih := CheckRules_loop ns hns l hl hf n (i + 1) r hr' (by simp at hn; omega)
    simp at ih
    have hx := hf x (by rw [← List.take_append_drop i l, hr]; simp)
    by_cases g1 : x.1 < 0
    · simp [h1, h3, hw, g1, rulesE]
    by_cases g2 : 9 < x.1
    · simp [h1, h3, hw, g1, g2, rulesE]
    have g3 : x.1 ≤ 9 := by omega
    have g4 : 0 ≤ x.1 := by omega
    by_cases g : checkM ns x.2 = 0 <;> simp [h1, h3, hw, g1, g2, g3, g4, rulesE, Check_run ns hns x.2 hx, g, ih]
theorem CheckRules_run (ns : List ByteArray) (hns : ns.length ≤ 9223372036854775807) (l : List (Int × Ex)) (hl : l.length ≤ 1000) (hf : ∀ x ∈ l, Fits x.2) : F_rule_CheckRules [.sl (l.map eR), .sl (ns.map eS)] = some (I (checkRulesM ns l)) := by
  rw [F_rule_CheckRules_eq]
  have hbig := bigL_ge
  have ih := CheckRules_loop ns hns l hl hf bigL 0 l rfl (by omega)
  simp at ih
  by_cases h : 32 < l.length
  · have : (32 : Int) < l.length := by omega
    simp [this, checkRulesM, h]
  · have : ¬ (32 : Int) < l.length := by omega
    by_cases g : rulesE ns l = 0 <;> simp [g] at ih <;> simp [this, ih, checkRulesM, h, g]
theorem rCheckRules_loop (ns : List ByteArray) (hns : ns.length ≤ 9223372036854775807) (l : List (Int × Ex)) (hl : l.length ≤ 1000) (hf : ∀ x ∈ l, Fits x.2) : ∀ (n i : Nat) (r : List (Int × Ex)), l.drop i = r → r.length < n →
    L_ref43_CheckRules 4 n ⟨[(0, .sl (l.map eR)), (1, .sl (ns.map eS)), (4, .any), (5, I i), (6, .any)], []⟩ =
      if rulesE ns r = 0 then some (.ex 0, ⟨[(0, .any), (1, .any), (4, .any), (5, .any), (6, .any)], []⟩) else some (.ret, ⟨[(0, .any), (1, .any), (4, I (rulesE ns r)), (5, .any), (6, .any)], []⟩)
  | 0, _, _, _, hn => by omega
  | n + 1, i, [], hr, hn => by
    rw [L_ref43_CheckRules_succ, R_ref43_CheckRules_eq]
    simp [dn hr, rulesE]
  | n + 1, i, x :: r, hr, hn => by
    rw [L_ref43_CheckRules_succ, R_ref43_CheckRules_eq]
    obtain ⟨h1, h3, hr', hi⟩ := dc (enc := eR) hr
    have hw := wrapN (n := i) (by omega)
    have ih := rCheckRules_loop ns hns l hl hf n (i + 1) r hr' (by simp at hn; omega)
    simp at ih
    have hx := hf x (by rw [← List.take_append_drop i l, hr]; simp)
    by_cases g1 : x.1 < 0
    · simp [h1, h3, hw, g1, rulesE]
    by_cases g2 : 9 < x.1
    · simp [h1, h3, hw, g1, g2, rulesE]
    have g3 : x.1 ≤ 9 := by omega
    have g4 : 0 ≤ x.1 := by omega
    by_cases g : checkM ns x.2 = 0 <;> simp [h1, h3, hw, g1, g2, g3, g4, rulesE, rCheck_run ns hns x.2 hx, g, ih]
theorem rCheckRules_run (ns : List ByteArray) (hns : ns.length ≤ 9223372036854775807) (l : List (Int × Ex)) (hl : l.length ≤ 1000) (hf : ∀ x ∈ l, Fits x.2) : F_ref43_CheckRules [.sl (l.map eR), .sl (ns.map eS)] = some (I (checkRulesM ns l)) := by
  rw [F_ref43_CheckRules_eq]
  have hbig := bigL_ge
  have ih := rCheckRules_loop ns hns l hl hf bigL 0 l rfl (by omega)
  simp at ih
  by_cases h : 32 < l.length
  · have : (32 : Int) < l.length := by omega
    simp [this, checkRulesM, h]
  · have : ¬ (32 : Int) < l.length := by omega
    by_cases g : rulesE ns l = 0 <;> simp [g] at ih <;> simp [this, ih, checkRulesM, h, g]
/-- The grade, the index and the error. -/
def gradeL (f : List (ByteArray × Int)) : Nat → List (Int × Ex) → Int × Int × Int
  | _, [] => (0, -1, 0)
  | i, r :: l => if (val f 8 r.2).2 = 0 then (if (val f 8 r.2).1 = 1 then (r.1, (i : Int), 0) else gradeL f (i + 1) l) else (0, 0, (val f 8 r.2).2)
def gradeM (l : List (Int × Ex)) (f : List (ByteArray × Int)) : Int × Int × Int := if checkRulesM (nms f) l = 0 then gradeL f 0 l else (0, 0, checkRulesM (nms f) l)
/-- Whether the loop ends at a rule. -/
def hits (f : List (ByteArray × Int)) : List (Int × Ex) → Bool
  | [] => false
  | r :: l => if (val f 8 r.2).2 = 0 then (if (val f 8 r.2).1 = 1 then true else hits f l) else true
theorem hits_false (f : List (ByteArray × Int)) : ∀ (l : List (Int × Ex)) (i : Nat), hits f l = false → gradeL f i l = (0, -1, 0)
  | [], i, _ => rfl
  | r :: l, i, h => by
    unfold hits at h
    unfold gradeL
    split at h
    · rename_i g
      rw [if_pos g]
      split at h
      · cases h
      · rename_i g2; rw [if_neg g2]; exact hits_false f l (i + 1) h
    · cases h
theorem rules_vis {ns : List ByteArray} : ∀ {l : List (Int × Ex)}, rulesE ns l = 0 → ∀ x ∈ l, vis ns 8 x.2 = 0 ∧ isC x.2.op = true
  | [], _, x, h => by simp at h
  | r :: l, hr, x, h => by
    unfold rulesE at hr
    split at hr
    · cases hr
    · split at hr
      · rename_i hc
        rcases List.mem_cons.1 h with rfl | h
        · unfold checkM at hc
          split at hc
          · rename_i hv
            split at hc
            · rename_i ho; exact ⟨hv, ho⟩
            · cases hc
          · rename_i hv; exact absurd hc hv
        · exact rules_vis hr x h
      · rename_i hc; exact absurd hr hc
theorem Grade_loop (f : List (ByteArray × Int)) (hf : f.length ≤ 1000000) (l : List (Int × Ex)) (hl : l.length ≤ 1000) (hv : ∀ x ∈ l, vis (nms f) 8 x.2 = 0) : ∀ (n i : Nat) (r : List (Int × Ex)), l.drop i = r → r.length < n →
    L_rule_Grade 5 n ⟨[(0, .any), (1, .sl (f.map eF)), (4, .any), (5, .any), (6, .any), (7, .any), (8, .any), (9, .any), (10, .any), (11, .any), (19, .sl (l.map eR)), (20, I l.length), (21, I i)], []⟩ =
      if hits f r = true then some (.ret, ⟨[(0, .any), (1, .any), (4, I (gradeL f i r).1), (5, I (gradeL f i r).2.1), (6, I (gradeL f i r).2.2), (7, .any), (8, .any), (9, .any), (10, .any), (11, .any), (19, .any), (20, .any), (21, .any)], []⟩) else some (.ex 0, ⟨[(0, .any), (1, .any), (4, .any), (5, .any), (6, .any), (7, .any), (8, .any), (9, .any), (10, .any), (11, .any), (19, .any), (20, .any), (21, .any)], []⟩)
  | 0, _, _, _, hn => by omega
  | n + 1, i, [], hr, hn => by
    rw [L_rule_Grade_succ, R_rule_Grade_eq]
    simp [dn hr, hits]
  | n + 1, i, x :: r, hr, hn => by
    rw [L_rule_Grade_succ, R_rule_Grade_eq]
    obtain ⟨h1, h3, hr', hi⟩ := dc (enc := eR) hr
    have hw := wrapN (n := i) (by omega)
    have ih := Grade_loop f hf l hl hv n (i + 1) r hr' (by simp at hn; omega)
    simp at ih
    have hx := Fvalue_run f hf (hv x (by rw [← List.take_append_drop i l, hr]; simp))
    by_cases g : (val f 8 x.2).2 = 0
    · by_cases g1 : (val f 8 x.2).1 = 1 <;> simp [h1, h3, hw, g, g1, hx, hits, gradeL, ih]
    · simp [h1, h3, hw, g, hx, hits, gradeL]
theorem rGrade_loop (f : List (ByteArray × Int)) (hf : f.length ≤ 1000000) (l : List (Int × Ex)) (hl : l.length ≤ 1000) (hv : ∀ x ∈ l, vis (nms f) 8 x.2 = 0) : ∀ (n i : Nat) (r : List (Int × Ex)), l.drop i = r → r.length < n →
    L_ref43_Grade 5 n ⟨[(0, .sl (l.map eR)), (1, .sl (f.map eF)), (4, .any), (5, .any), (6, .any), (7, .any), (8, I i), (9, .any), (10, .any)], []⟩ =
      if hits f r = true then some (.ret, ⟨[(0, .any), (1, .any), (4, I (gradeL f i r).1), (5, I (gradeL f i r).2.1), (6, I (gradeL f i r).2.2), (7, .any), (8, .any), (9, .any), (10, .any)], []⟩) else some (.ex 0, ⟨[(0, .any), (1, .any), (4, .any), (5, .any), (6, .any), (7, .any), (8, .any), (9, .any), (10, .any)], []⟩)
  | 0, _, _, _, hn => by omega
  | n + 1, i, [], hr, hn => by
    rw [L_ref43_Grade_succ, R_ref43_Grade_eq]
    simp [dn hr, hits]
  | n + 1, i, x :: r, hr, hn => by
    rw [L_ref43_Grade_succ, R_ref43_Grade_eq]
    obtain ⟨h1, h3, hr', hi⟩ := dc (enc := eR) hr
    have hw := wrapN (n := i) (by omega)
    have ih := rGrade_loop f hf l hl hv n (i + 1) r hr' (by simp at hn; omega)
    simp at ih
    have hx := Frvalue_run f hf (hv x (by rw [← List.take_append_drop i l, hr]; simp))
    by_cases g : (val f 8 x.2).2 = 0
    · by_cases g1 : (val f 8 x.2).1 = 1 <;> simp [h1, h3, hw, g, g1, hx, hits, gradeL, ih]
    · simp [h1, h3, hw, g, hx, hits, gradeL]
theorem Grade_run (f : List (ByteArray × Int)) (hf : f.length ≤ 1000000) (l : List (Int × Ex)) (hl : l.length ≤ 1000) (hx : ∀ x ∈ l, Fits x.2) : F_rule_Grade [.sl (l.map eR), .sl (f.map eF)] = some (.tup [I (gradeM l f).1, I (gradeM l f).2.1, I (gradeM l f).2.2]) := by
  rw [F_rule_Grade_eq]
  have hbig := bigL_ge
  have hc := CheckRules_run (nms f) (by rw [nms_length]; omega) l hl hx
  by_cases h : checkRulesM (nms f) l = 0
  · have hr : rulesE (nms f) l = 0 := by
      unfold checkRulesM at h
      split at h
      · cases h
      · exact h
    have ih := Grade_loop f hf l hl (fun x hx => (rules_vis hr x hx).1) bigL 0 l rfl (by omega)
    simp at ih
    cases hh : hits f l with
    | true =>
      simp [hh] at ih
      simp [names_run f hf, hc, h, ih, gradeM]
    | false =>
      simp [hh] at ih
      simp [names_run f hf, hc, h, ih, gradeM, hits_false f l 0 hh]
  · simp [names_run f hf, hc, h, gradeM]
theorem rGrade_run (f : List (ByteArray × Int)) (hf : f.length ≤ 1000000) (l : List (Int × Ex)) (hl : l.length ≤ 1000) (hx : ∀ x ∈ l, Fits x.2) : F_ref43_Grade [.sl (l.map eR), .sl (f.map eF)] = some (.tup [I (gradeM l f).1, I (gradeM l f).2.1, I (gradeM l f).2.2]) := by
  rw [F_ref43_Grade_eq]
  have hbig := bigL_ge
  have hc := rCheckRules_run (nms f) (by rw [nms_length]; omega) l hl hx
  by_cases h : checkRulesM (nms f) l = 0
  · have hr : rulesE (nms f) l = 0 := by
      unfold checkRulesM at h
      split at h
      · cases h
      · exact h
    have ih := rGrade_loop f hf l hl (fun x hx => (rules_vis hr x hx).1) bigL 0 l rfl (by omega)
    simp at ih
    cases hh : hits f l with
    | true =>
      simp [hh] at ih
      simp [rNames_run f hf, hc, h, ih, gradeM]
    | false =>
      simp [hh] at ih
      simp [rNames_run f hf, hc, h, ih, gradeM, hits_false f l 0 hh]
  · simp [rNames_run f hf, hc, h, gradeM]
end Go.Proofs.YtldekjlihfidlaaGreatDoor.Rl
