/-
  The statement AirGoes, run abstractly.
-/
import Derived.Test.YtmnipfincjpofaaArB
namespace Go.Proofs.Ytmnipfincjpofaa
set_option linter.unusedSimpArgs false
set_option linter.unusedVariables false
open Go Go.Abs
set_option maxHeartbeats 2000000
set_option maxRecDepth 100000
/-- The faults from the back, each twice. -/
def backs : List Int → List Int
  | [] => []
  | n :: r => backs r ++ [n, n]
theorem backs_inL (v : Int) : ∀ l : List Int, inL v (backs l) = inL v l
  | [] => rfl
  | n :: r => by
    have app : ∀ a b : List Int, inL v (a ++ b) = (inL v a || inL v b) := by
      intro a b
      induction a with
      | nil => simp [inL]
      | cons m a ih =>
        simp only [List.cons_append, inL]
        split
        · simp
        · exact ih
    rw [backs, app, backs_inL v r]
    simp only [inL]
    by_cases h : v = n <;> simp [h]
theorem backs_len : ∀ l : List Int, (backs l).length = 2 * l.length
  | [] => rfl
  | n :: r => by rw [backs, List.length_append, backs_len r]; simp; omega
theorem goes_loop (nt nd tt td ramp : Int) (f : List Int) (hb : f.length ≤ 100) : ∀ (n k : Nat), k ≤ f.length → k < n →
    L_law35_AirGoes 6 n ⟨[(0, .any), (1, .ptr 1 0), (2, .any), (3, .ptr 3 0), (4, .row 4), (5, I ((k : Int) - 1)), (6, .any)], [(1, .box 36 [I nt, I nd, I tt, I td, I ramp, .sl (f.map eI)]), (3, .box 30 [I (goalT tt (f.drop k)), I (goalD td (f.drop k))]), (4, .row 3 1 true ((backs (f.drop k)).map eI))]⟩ =
      some (.ex 0, ⟨[(0, .any), (1, .ptr 1 0), (2, .any), (3, .ptr 3 0), (4, .row 4), (5, .any), (6, .any)], [(1, .box 36 [I nt, I nd, I tt, I td, I ramp, .sl (f.map eI)]), (3, .box 30 [I (goalT tt f), I (goalD td f)]), (4, .row 3 1 true ((backs f).map eI))]⟩)
  | 0, k, _, hn => by omega
  | n + 1, k, hk, hn => by
    rw [L_law35_AirGoes_succ, R_law35_AirGoes_eq]
    cases k with
    | zero => simp
    | succ k =>
      have h : k < f.length := by omega
      have h1 := List.getElem?_eq_getElem h
      have ih := goes_loop nt nd tt td ramp f hb n k (by omega) (by omega)
      have e1 : ((k + 1 : Nat) : Int) - 1 = (k : Int) := by omega
      have hw : IntKind.i64.wrap ((k : Int) - 1) = (k : Int) - 1 := wrap64 (by omega) (by omega)
      rw [e1]
      have hd := List.drop_eq_getElem_cons h
      have hbl := backs_len (f.drop (k + 1))
      have hb2 : (backs (f.drop k)).map eI = (backs (f.drop (k + 1))).map eI ++ [[I f[k]], [I f[k]]] := by
        rw [hd, backs]
        simp
      have hlen : ((backs (f.drop (k + 1))).map eI).length + 2 ≤ 1000 := by
        rw [List.length_map, hbl, List.length_drop]; omega
      have hl2 : (((backs (f.drop (k + 1))).map eI).length + 2) * 9 ≤ 140737488355328 := by omega
      have g1 : goalT tt (f.drop k) = if f[k] = 1 then 200 else goalT tt (f.drop (k + 1)) := by
        rw [hd]
        unfold goalT
        rw [inL]
        by_cases h : f[k] = 1
        · simp [h]
        · have : ¬ (1 : Int) = f[k] := fun e => h e.symm
          simp [h, this]
      have g2 : goalD td (f.drop k) = if f[k] = 3 then 100 else goalD td (f.drop (k + 1)) := by
        rw [hd]
        unfold goalD
        rw [inL]
        by_cases h : f[k] = 3
        · simp [h]
        · have : ¬ (3 : Int) = f[k] := fun e => h e.symm
          simp [h, this]
      rw [hb2, g1, g2] at ih
      generalize (backs (f.drop (k + 1))).map eI = es at ih hl2
      generalize goalT tt (f.drop (k + 1)) = gt at ih ⊢
      generalize goalD td (f.drop (k + 1)) = gd at ih ⊢
      by_cases c1 : f[k] = 1
      · simp [c1] at ih
        simp [h1, c1, hw, hl2, ih, outside_run]
      · by_cases c3 : f[k] = 3
        · simp [c3] at ih
          simp [h1, c1, c3, hw, hl2, ih, outside_run]
        · simp [c1, c3] at ih
          simp [h1, c1, c3, hw, hl2, ih, outside_run]
theorem between'_run (n a b r : Int) (h1 : IntKind.i64.wrap (n - a) = n - a) (h2 : IntKind.i64.wrap (a - n) = a - n) : F_law35_between [I n, I a, I b, I r] = some (B (decide ((if b < a then b else a) ≤ n) && (decide (n ≤ (if a < b then b else a)) && (decide (n - a ≤ r) && decide (a - n ≤ r))))) := by
  rw [F_law35_between_eq]
  simp [h1, h2]
theorem step_between {a b r : Int} (hr : 0 ≤ r) : (if b < a then b else a) ≤ step a b r ∧ step a b r ≤ (if a < b then b else a) ∧ step a b r - a ≤ r ∧ a - step a b r ≤ r := by
  unfold step clampN
  repeat' split
  all_goals omega
theorem checkC_zero {t d : Int} : checkC t d = 0 ↔ 0 ≤ t ∧ t ≤ 1200 ∧ 0 ≤ d ∧ d ≤ 400 := by
  unfold checkC
  repeat' split
  all_goals simp <;> omega
theorem clampN_id {n hi : Int} (h1 : 0 ≤ n) (h2 : n ≤ hi) : clampN n 0 hi = n := by
  unfold clampN
  repeat' split
  all_goals omega
theorem goes_law (nt nd tt td ramp : Int) (f : List Int) (hb : f.length ≤ 9223372036854775807) : F_law35_AirGoes [.agg [I nt, I nd, I tt, I td, I ramp, .sl (f.map eI)]] = some (B true) := by
  rw [F_law35_AirGoes_eq]
  by_cases hl : (f.length : Int) ≤ 100
  · by_cases c1 : checkC nt nd = 0
    · by_cases c2 : checkC tt td = 0
      · by_cases c3 : 0 ≤ ramp
        · by_cases c4 : ramp ≤ 1200
          · have c4' : ¬ 1200 < ramp := by omega
            have hw : IntKind.i64.wrap ((f.length : Int) - 1) = (f.length : Int) - 1 := wrap64 (by omega) (by omega)
            have ih := goes_loop nt nd tt td ramp f (by omega) bigL f.length (by omega) (by have := bigL_ge; omega)
            have hd : f.drop f.length = [] := List.drop_of_length_le (by omega)
            rw [hd] at ih
            simp [goalT, goalD, inL, backs] at ih
            have n1 := next_run nt nd tt td ramp f hb
            have n2 := next_run nt nd tt td ramp (backs f) (by rw [backs_len]; omega)
            have e1 : nextT nt tt ramp (backs f) = nextT nt tt ramp f := by simp [nextT, goalT, backs_inL]
            have e2 : nextD nd td ramp (backs f) = nextD nd td ramp f := by simp [nextD, goalD, backs_inL]
            rw [e1, e2] at n2
            obtain ⟨a1, a2, a3, a4⟩ := checkC_zero.1 c1
            obtain ⟨b1, b2, b3, b4⟩ := checkC_zero.1 c2
            have q1 : nextT nt tt ramp f = step nt (goalT tt f) ramp := by rw [nextT, clampN_id a1 a2, clampN_id b1 b2, clampN_id c3 c4]
            have q2 : nextD nd td ramp f = step nd (goalD td f) ramp := by rw [nextD, clampN_id a3 a4, clampN_id b3 b4, clampN_id c3 c4]
            have s1 := step_between (a := nt) (b := goalT tt f) c3
            have s2 := step_between (a := nd) (b := goalD td f) c3
            have t1 : 0 ≤ goalT tt f ∧ goalT tt f ≤ 1200 := by unfold goalT; split <;> omega
            have t2 : 0 ≤ goalD td f ∧ goalD td f ≤ 400 := by unfold goalD; split <;> omega
            have r1 : 0 ≤ step nt (goalT tt f) ramp ∧ step nt (goalT tt f) ramp ≤ 1200 := by
              have := s1.1
              have := s1.2.1
              constructor
              · split at * <;> omega
              · split at * <;> omega
            have r2 : 0 ≤ step nd (goalD td f) ramp ∧ step nd (goalD td f) ramp ≤ 400 := by
              have := s2.1
              have := s2.2.1
              constructor
              · split at * <;> omega
              · split at * <;> omega
            rw [q1, q2] at n1 n2
            have hc : checkC (step nt (goalT tt f) ramp) (step nd (goalD td f) ramp) = 0 := checkC_zero.2 ⟨r1.1, r1.2, r2.1, r2.2⟩
            have w1 := between'_run (step nt (goalT tt f) ramp) nt (goalT tt f) ramp (wrap64 (by omega) (by omega)) (wrap64 (by omega) (by omega))
            have w2 := between'_run (step nd (goalD td f) ramp) nd (goalD td f) ramp (wrap64 (by omega) (by omega)) (wrap64 (by omega) (by omega))
            simp [s1] at w1
            simp [s2] at w2
            have g1 : (if inL 1 f = true then (200 : Int) else tt) = goalT tt f := rfl
            have g2 : (if inL 3 f = true then (100 : Int) else td) = goalD td f := rfl
            rw [g1, g2] at ih
            simp [rcheckC_run, c1, c2, hl, c3, c4', hw, ih, n1, n2, checkC_run, hc, w1, w2, awakeA_run]
          · have c4' : 1200 < ramp := by omega
            simp [rcheckC_run, c1, c2, hl, c3, c4', awakeA_run]
        · simp [rcheckC_run, c1, c2, hl, c3, awakeA_run]
      · simp [rcheckC_run, c1, c2, hl, awakeA_run]
    · simp [rcheckC_run, c1, hl, awakeA_run]
  · simp [hl, awakeA_run]
end Go.Proofs.Ytmnipfincjpofaa
