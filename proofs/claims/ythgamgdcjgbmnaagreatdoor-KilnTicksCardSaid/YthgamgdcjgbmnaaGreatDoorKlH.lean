/-
  Ticks under any faults, run abstractly: the law KilnLimits.
-/
import Derived.Test.YthgamgdcjgbmnaaGreatDoorKlF
namespace Go.Proofs.YthgamgdcjgbmnaaGreatDoor
set_option linter.unusedSimpArgs false
set_option linter.unusedVariables false
open Go Go.Abs
set_option maxHeartbeats 8000000
set_option maxRecDepth 100000
def eF (f : List Int) : List D := [.sl (f.map eI)]
@[simp] theorem eF_eq (f : List Int) : eF f = [.sl (f.map eI)] := rfl
/-- A slice that is read, fresh or not. -/
def slQ (q : Bool) (es : List (List D)) : D := if q = true then .own true es else .sl es
@[simp] theorem slQ_true (es : List (List D)) : slQ true es = .own true es := rfl
@[simp] theorem slQ_false (es : List (List D)) : slQ false es = .sl es := rfl
def few10 : List (List Int) → Bool
  | [] => true
  | f :: r => if (10 : Int) < f.length then false else few10 r
theorem few10_mem : ∀ {l : List (List Int)}, few10 l = true → ∀ f ∈ l, f.length ≤ 10
  | [], _, f, hf => by simp at hf
  | x :: r, h, f, hf => by
    unfold few10 at h
    split at h
    · simp at h
    · rcases List.mem_cons.1 hf with rfl | hf
      · omega
      · exact few10_mem h f hf
def fewM (l : List (List Int)) : Bool := few10 l && decide ((l.length : Int) ≤ 60)
theorem few_loop (l : List (List Int)) (hl : l.length ≤ 9223372036854775807) : ∀ (n i : Nat) (r : List (List Int)), l.drop i = r → r.length < n →
    L_law38_few 2 n ⟨[(0, .sl (l.map eF)), (2, .any), (3, I i)], []⟩ =
      if few10 r = true then some (.ex 0, ⟨[(0, .sl (l.map eF)), (2, .any), (3, .any)], []⟩) else some (.ret, ⟨[(0, .any), (2, B false), (3, .any)], []⟩)
  | 0, _, _, _, hn => by omega
  | n + 1, i, [], hr, hn => by
    rw [L_law38_few_succ, R_law38_few_eq]
    simp [dn hr, few10]
  | n + 1, i, x :: r, hr, hn => by
    rw [L_law38_few_succ, R_law38_few_eq]
    obtain ⟨h1, h3, hr', hi⟩ := dc (enc := eF) hr
    have hw := wrapN (n := i) (by omega)
    have ih := few_loop l hl n (i + 1) r hr' (by simp at hn; omega)
    simp at ih
    by_cases a1 : (10 : Int) < x.length
    · simp [h1, h3, few10, a1]
    · simp [h1, h3, few10, a1, hw, ih]
theorem few_run (l : List (List Int)) (hl : l.length ≤ 9223372036854775807) : F_law38_few [.sl (l.map eF)] = some (B (fewM l)) := by
  rw [F_law38_few_eq]
  unfold fewM
  have ih := few_loop l hl bigL 0 l rfl (by have := bigL_ge; omega)
  simp at ih
  cases h : few10 l <;> simp [ih, h]
theorem step_run (k : Kl) (f : List Int) (hfl : f.length ≤ 10) (iv : InvK k) :
    E_kiln_Kiln_Tick [(1000, .box 78 (eK k))] [.ptr 1000 0, .sl (f.map eI)] =
      some (B (!doneK (stepK k f)), [(1000, .box 78 (cK (stepK k f) (.sl (k.stages.map eSg)) (slQ (!doneK k) ((stepK k f).items.map eT))))]) := by
  have h1 := iv.stage
  by_cases hd : k.stage = k.stages.length
  · have e1 : doneK k = true := by simp [doneK, hd]
    have e2 : stepK k f = k := by simp [stepK, hd]
    rw [tickDone_run k f (by omega), e2, e1]
    rfl
  · have e1 : doneK k = false := by simp [doneK]; omega
    have e2 : stepK k f = tickK k f := by simp [stepK, hd]
    rw [tick'_run k f (by omega) (by omega) (by have := iv.stages; omega) iv.some (by have := iv.many; omega), e2, e1]
    rfl
end Go.Proofs.YthgamgdcjgbmnaaGreatDoor
