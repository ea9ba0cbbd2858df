/-
  The check of an expression, run abstractly: in the program and in the reference.
-/
import Derived.Test.YtldekjlihfidlaaGreatDoorRlA
namespace Go.Proofs.YtldekjlihfidlaaGreatDoor.Rl
set_option linter.unusedSimpArgs false
set_option linter.unusedVariables false
open Go Go.Abs
set_option maxHeartbeats 4000000
set_option maxRecDepth 100000
/-- The first error among arguments. -/
def firstE (v : Ex → Int) : List Ex → Int
  | [] => 0
  | a :: r => if v a = 0 then firstE v r else v a
/-- An argument of another type than is wanted. -/
def anyBad (t : Bool) : List Ex → Bool
  | [] => false
  | a :: r => if isC a.op = t then anyBad t r else true
/-- The error of a node alone. -/
def node (ns : List ByteArray) (e : Ex) : Int :=
  if e.op < 1 ∨ 11 < e.op then 10
  else if (e.n ≠ 0 ∧ e.op ≠ 1) ∨ (e.name ≠ ByteArray.empty ∧ e.op ≠ 2) ∨ (e.args.length : Int) ≠ takesN e.op then 5
  else if e.op = 2 ∧ hasS ns e.name = false then 8
  else if e.op = 1 ∧ bnd' e.n = false then 9
  else if anyBad (takesC e.op) e.args = true then 27
  else 0
/-- The check of an expression of so many levels. -/
def vis (ns : List ByteArray) : Nat → Ex → Int
  | 0, _ => 28
  | k + 1, e => if firstE (vis ns k) e.args = 0 then node ns e else firstE (vis ns k) e.args

theorem visit_loopA (sf : List D → Option D) (v : Ex → Int) (ns : List ByteArray) (lv : Int) (hlv : -9223372036854775808 ≤ lv ∧ lv ≤ 8) (e : Ex) (hsf : ∀ a ∈ e.args, sf [.agg (eX a), .sl (ns.map eS), I (lv + 1)] = some (I (v a))) (hl : e.args.length ≤ 9223372036854775807) : ∀ (n i : Nat) (r : List Ex), e.args.drop i = r → r.length < n →
    L_rule_visit sf 4 n ⟨[(0, .any), (1, .sl (ns.map eS)), (2, I lv), (3, .ptr 3 0), (6, .any), (8, .any), (9, .any), (11, .any), (15, .sl (e.args.map eX)), (16, I e.args.length), (17, I i), (85, .any), (86, .any), (87, .any)], [(3, .box 46 [I e.op, I e.n, St' e.name, .sl (e.args.map eX)])]⟩ =
      if firstE v r = 0 then some (.ex 0, ⟨[(0, .any), (1, .sl (ns.map eS)), (2, .any), (3, .ptr 3 0), (6, .any), (8, .any), (9, .any), (11, .any), (15, .any), (16, .any), (17, .any), (85, .any), (86, .any), (87, .any)], [(3, .box 46 [I e.op, I e.n, St' e.name, .sl (e.args.map eX)])]⟩)
      else some (.ret, ⟨[(0, .any), (1, .any), (2, .any), (3, .any), (6, I (firstE v r)), (8, .any), (9, .any), (11, .any), (15, .any), (16, .any), (17, .any), (85, .any), (86, .any), (87, .any)], []⟩)
  | 0, _, _, _, hn => by omega
  | n + 1, i, [], hr, hn => by
    rw [L_rule_visit_succ, R_rule_visit_eq]
    simp [dn hr, firstE]
  | n + 1, i, x :: r, hr, hn => by
    rw [L_rule_visit_succ, R_rule_visit_eq]
    obtain ⟨h1, h3, hr', hi⟩ := dc (enc := eX) hr
    have hw := wrapN (n := i) (by omega)
    have hw2 : IntKind.i64.wrap (lv + 1) = lv + 1 := wrap64 (by omega) (by omega)
    have hx : x ∈ e.args := by rw [← List.take_append_drop i e.args, hr]; simp
    have h5 := hsf x hx
    have ih := visit_loopA sf v ns lv hlv e hsf hl n (i + 1) r hr' (by simp at hn; omega)
    simp at ih
    by_cases hz : v x = 0
    · simp [h1, h3, hw, hw2, h5, hz, firstE, ih]
    · simp [h1, h3, hw, hw2, h5, hz, firstE]
theorem visit_loopB (sf : List D → Option D) (e : Ex) (hl : e.args.length ≤ 9223372036854775807) : ∀ (n i : Nat) (r : List Ex), e.args.drop i = r → r.length < n →
    L_rule_visit sf 19 n ⟨[(0, .any), (1, .any), (2, .any), (3, .ptr 3 0), (6, .any), (8, .any), (9, .any), (11, .any), (15, .any), (16, .any), (17, .any), (85, .sl (e.args.map eX)), (86, I e.args.length), (87, I i)], [(3, .box 46 [I e.op, I e.n, St' e.name, .sl (e.args.map eX)])]⟩ =
      if anyBad (takesC e.op) r = true then some (.ret, ⟨[(0, .any), (1, .any), (2, .any), (3, .any), (6, I 27), (8, .any), (9, .any), (11, .any), (15, .any), (16, .any), (17, .any), (85, .any), (86, .any), (87, .any)], []⟩)
      else some (.ex 2, ⟨[(0, .any), (1, .any), (2, .any), (3, .any), (6, .any), (8, .any), (9, .any), (11, .any), (15, .any), (16, .any), (17, .any), (85, .any), (86, .any), (87, .any)], []⟩)
  | 0, _, _, _, hn => by omega
  | n + 1, i, [], hr, hn => by
    rw [L_rule_visit_succ, R_rule_visit_eq]
    simp [dn hr, anyBad]
  | n + 1, i, x :: r, hr, hn => by
    rw [L_rule_visit_succ, R_rule_visit_eq]
    obtain ⟨h1, h3, hr', hi⟩ := dc (enc := eX) hr
    have hw := wrapN (n := i) (by omega)
    have ih := visit_loopB sf e hl n (i + 1) r hr' (by simp at hn; omega)
    simp at ih
    by_cases hz : isC x.op = takesC e.op <;> simp [h1, h3, hw, isCondition_run, takesConditions_run, hz, anyBad, ih]
theorem check_loopA (sf : List D → Option D) (v : Ex → Int) (ns : List ByteArray) (lv : Int) (hlv : -9223372036854775808 ≤ lv ∧ lv ≤ 8) (e : Ex) (hsf : ∀ a ∈ e.args, sf [.agg (eX a), .sl (ns.map eS), I (lv + 1)] = some (I (v a))) (hl : e.args.length ≤ 9223372036854775807) : ∀ (n i : Nat) (r : List Ex), e.args.drop i = r → r.length < n →
    L_ref43_check sf 4 n ⟨[(0, .any), (1, .sl (ns.map eS)), (2, I lv), (3, .ptr 3 0), (6, .any), (7, I i), (8, .any), (9, .any), (10, .any)], [(3, .box 46 [I e.op, I e.n, St' e.name, .sl (e.args.map eX)])]⟩ =
      if firstE v r = 0 then some (.ex 0, ⟨[(0, .any), (1, .sl (ns.map eS)), (2, .any), (3, .ptr 3 0), (6, .any), (7, .any), (8, .any), (9, .any), (10, .any)], [(3, .box 46 [I e.op, I e.n, St' e.name, .sl (e.args.map eX)])]⟩)
      else some (.ret, ⟨[(0, .any), (1, .any), (2, .any), (3, .any), (6, I (firstE v r)), (7, .any), (8, .any), (9, .any), (10, .any)], []⟩)
  | 0, _, _, _, hn => by omega
  | n + 1, i, [], hr, hn => by
    rw [L_ref43_check_succ, R_ref43_check_eq]
    simp [dn hr, firstE]
  | n + 1, i, x :: r, hr, hn => by
    rw [L_ref43_check_succ, R_ref43_check_eq]
    obtain ⟨h1, h3, hr', hi⟩ := dc (enc := eX) hr
    have hw := wrapN (n := i) (by omega)
    have hw2 : IntKind.i64.wrap (lv + 1) = lv + 1 := wrap64 (by omega) (by omega)
    have hx : x ∈ e.args := by rw [← List.take_append_drop i e.args, hr]; simp
    have h5 := hsf x hx
    have ih := check_loopA sf v ns lv hlv e hsf hl n (i + 1) r hr' (by simp at hn; omega)
    simp at ih
    by_cases hz : v x = 0
    · simp [h1, h3, hw, hw2, h5, hz, firstE, ih]
    · simp [h1, h3, hw, hw2, h5, hz, firstE]
theorem check_loopB (sf : List D → Option D) (e : Ex) (hl : e.args.length ≤ 9223372036854775807) : ∀ (n i : Nat) (r : List Ex), e.args.drop i = r → r.length < n →
    L_ref43_check sf 19 n ⟨[(0, .any), (1, .any), (2, .any), (3, .ptr 3 0), (6, .any), (7, .any), (8, .any), (9, .any), (10, I i)], [(3, .box 46 [I e.op, I e.n, St' e.name, .sl (e.args.map eX)])]⟩ =
      if anyBad (takesC e.op) r = true then some (.ret, ⟨[(0, .any), (1, .any), (2, .any), (3, .any), (6, I 27), (7, .any), (8, .any), (9, .any), (10, .any)], []⟩)
      else some (.ex 2, ⟨[(0, .any), (1, .any), (2, .any), (3, .any), (6, .any), (7, .any), (8, .any), (9, .any), (10, .any)], []⟩)
  | 0, _, _, _, hn => by omega
  | n + 1, i, [], hr, hn => by
    rw [L_ref43_check_succ, R_ref43_check_eq]
    simp [dn hr, anyBad]
  | n + 1, i, x :: r, hr, hn => by
    rw [L_ref43_check_succ, R_ref43_check_eq]
    obtain ⟨h1, h3, hr', hi⟩ := dc (enc := eX) hr
    have hw := wrapN (n := i) (by omega)
    have ih := check_loopB sf e hl n (i + 1) r hr' (by simp at hn; omega)
    simp at ih
    by_cases hz : isC x.op = takesC e.op <;> simp [h1, h3, hw, condition_run, wants_run, hz, anyBad, ih]
theorem takesN_nn (op : Int) : ¬ takesN op < 0 := by unfold takesN; (repeat' split) <;> omega
/-- An expression that fits into a machine. -/
inductive Fits : Ex → Prop
  | mk {e : Ex} (ho : -9223372036854775808 ≤ e.op ∧ e.op ≤ 9223372036854775807) (hn : -9223372036854775808 ≤ e.n ∧ e.n ≤ 9223372036854775807) (hs : e.name.size ≤ 9223372036854775807) (hl : e.args.length ≤ 9223372036854775807) (ha : ∀ a ∈ e.args, Fits a) : Fits e
theorem visit_run (ns : List ByteArray) (hns : ns.length ≤ 9223372036854775807) : ∀ (k m : Nat) (e : Ex) (lv : Int), Fits e → k < m → lv = 9 - (k : Int) → -1000 ≤ lv → FN_rule_visit m [.agg (eX e), .sl (ns.map eS), I lv] = some (I (vis ns k e)) := by
  intro k
  induction k with
  | zero =>
    intro m e lv hf hm hlv _
    obtain ⟨m, rfl⟩ : ∃ q, m = q + 1 := ⟨m - 1, by omega⟩
    subst hlv
    rw [FN_rule_visit_eq]
    simp [vis]
  | succ k ih =>
    intro m e lv hf hm hlv hlow
    obtain ⟨m, rfl⟩ : ∃ q, m = q + 1 := ⟨m - 1, by omega⟩
    rw [FN_rule_visit_eq]
    have h8 : ¬ 8 < lv := by omega
    have hbig := bigL_ge
    obtain ⟨ho, hn, hs, hl, ha⟩ := hf
    have hA := visit_loopA (FN_rule_visit m) (vis ns k) ns lv ⟨by omega, by omega⟩ e (fun a h => ih m a (lv + 1) (ha a h) (by omega) (by omega) (by omega)) hl bigL 0 e.args rfl (by omega)
    have hB := visit_loopB (FN_rule_visit m) e hl bigL 0 e.args rfl (by omega)
    simp at hA hB
    unfold vis
    by_cases hz : firstE (vis ns k) e.args = 0
    · rw [if_pos hz]
      simp [hz] at hA
      simp [h8, eX_eq e, hA, hB, takes_run, contains_run ns e.name hns, bounded_run]
      clear hA hB ih
      unfold node
      by_cases g1 : e.op < 1 ∨ 11 < e.op
      · (repeat' split) <;> first | rfl | omega
      · have g2 : 1 ≤ e.op := by omega
        have g2' : ¬ e.op < 1 := by omega
        have g3 : ¬ 11 < e.op := by omega
        have g3' : e.op ≤ 11 := by omega
        have g9 := takesN_nn e.op
        simp only [g2, g2', g3, g9, or_self, if_true, if_false]
        by_cases g4 : e.op = 2
        · by_cases g5 : e.n = 0 <;> by_cases g6 : (e.args.length : Int) = takesN 2 <;> by_cases g7 : hasS ns e.name = false <;> simp [g4, g5, g6, g7]
        · by_cases g5 : e.op = 1
          · by_cases g6 : (e.args.length : Int) = takesN 1 <;> by_cases g7 : e.name = ByteArray.empty <;> by_cases g8 : bnd' e.n = false <;> simp [g5, g6, g7, g8]
          · by_cases g6 : (e.args.length : Int) = takesN e.op <;> by_cases g7 : e.name = ByteArray.empty <;> by_cases g8 : e.n = 0 <;> simp [g4, g5, g6, g7, g8]
    · rw [if_neg hz]
      simp [hz] at hA
      simp [h8, eX_eq e, hA]
theorem check_run (ns : List ByteArray) (hns : ns.length ≤ 9223372036854775807) : ∀ (k m : Nat) (e : Ex) (lv : Int), Fits e → k < m → lv = 9 - (k : Int) → -1000 ≤ lv → FN_ref43_check m [.agg (eX e), .sl (ns.map eS), I lv] = some (I (vis ns k e)) := by
  intro k
  induction k with
  | zero =>
    intro m e lv hf hm hlv _
    obtain ⟨m, rfl⟩ : ∃ q, m = q + 1 := ⟨m - 1, by omega⟩
    subst hlv
    rw [FN_ref43_check_eq]
    simp [vis]
  | succ k ih =>
    intro m e lv hf hm hlv hlow
    obtain ⟨m, rfl⟩ : ∃ q, m = q + 1 := ⟨m - 1, by omega⟩
    rw [FN_ref43_check_eq]
    have h8 : ¬ 8 < lv := by omega
    have hbig := bigL_ge
    obtain ⟨ho, hn, hs, hl, ha⟩ := hf
    have hA := check_loopA (FN_ref43_check m) (vis ns k) ns lv ⟨by omega, by omega⟩ e (fun a h => ih m a (lv + 1) (ha a h) (by omega) (by omega) (by omega)) hl bigL 0 e.args rfl (by omega)
    have hB := check_loopB (FN_ref43_check m) e hl bigL 0 e.args rfl (by omega)
    simp at hA hB
    unfold vis
    by_cases hz : firstE (vis ns k) e.args = 0
    · rw [if_pos hz]
      simp [hz] at hA
      simp [h8, eX_eq e, hA, hB, rtakes_run, rin_run ns e.name hns, big_run]
      clear hA hB ih
      unfold node
      by_cases g1 : e.op < 1 ∨ 11 < e.op
      · simp [g1]
      · have g2 : 1 ≤ e.op := by omega
        have g2' : ¬ e.op < 1 := by omega
        have g3 : ¬ 11 < e.op := by omega
        have g3' : e.op ≤ 11 := by omega
        have g9 := takesN_nn e.op
        simp only [g2, g2', g3, g9, or_self, if_true, if_false]
        by_cases g4 : e.op = 2
        · by_cases g5 : e.n = 0 <;> by_cases g6 : (e.args.length : Int) = takesN 2 <;> by_cases g7 : hasS ns e.name = false <;> simp [g4, g5, g6, g7]
        · by_cases g5 : e.op = 1
          · by_cases g6 : (e.args.length : Int) = takesN 1 <;> by_cases g7 : e.name = ByteArray.empty <;> by_cases g8 : bnd' e.n = false <;> simp [g5, g6, g7, g8]
          · by_cases g6 : (e.args.length : Int) = takesN e.op <;> by_cases g7 : e.name = ByteArray.empty <;> by_cases g8 : e.n = 0 <;> simp [g4, g5, g6, g7, g8]
    · rw [if_neg hz]
      simp [hz] at hA
      simp [h8, eX_eq e, hA]
end Go.Proofs.YtldekjlihfidlaaGreatDoor.Rl
