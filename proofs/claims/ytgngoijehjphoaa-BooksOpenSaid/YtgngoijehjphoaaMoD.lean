/-
  The moisture's statements without the reference, run abstractly.
-/
import Derived.Test.YtgngoijehjphoaaMoC
namespace Go.Proofs.Ytgngoijehjphoaa
set_option linter.unusedSimpArgs false
set_option linter.unusedVariables false
open Go Go.Abs
set_option maxHeartbeats 2000000
set_option maxRecDepth 100000
/-- Whether a number lies between two others, or is one of them. -/
def btw (n a b : Int) : Bool := (decide (a ≤ n) && decide (n ≤ b)) || (decide (b ≤ n) && decide (n ≤ a))
theorem btw_iff {n a b : Int} : btw n a b = true ↔ (a ≤ n ∧ n ≤ b) ∨ (b ≤ n ∧ n ≤ a) := by simp [btw]
def size (n : Int) : Int := if n < -n then -n else n
theorem grad_rng (x : Cel) : -20000 ≤ grad x ∧ grad x ≤ 20000 := by
  unfold grad
  split
  · rename_i h
    obtain ⟨h1, h2, _⟩ := checkM_zero.1 h
    omega
  · omega
theorem Comp.check {x : Cel} {w : Spc} {th t d : Int} (h : Comp x w th t d) : checkM x = 0 := checkM_zero.2 ⟨h.s, h.c, h.st⟩
/-- What a tick comes to. -/
structure Ticked (x y : Cel) (w : Spc) (t d : Int) : Prop where
  s : y.s = x.s ∨ btw y.s x.s (emc t d) = true
  c : btw y.c x.c y.s = true
  st : x.st ≤ y.st
  ok : checkM y = 0
  new : y.st = if 1099511627776 < x.st + (if 0 < y.c - y.s - w.safe then y.c - y.s - w.safe else 0) then 1099511627776 else x.st + (if 0 < y.c - y.s - w.safe then y.c - y.s - w.safe else 0)
theorem ticked {x : Cel} {w : Spc} {th t d : Int} (h : Comp x w th t d) (fan : Bool) : Ticked x (tick x w th t d fan) w t d := by
  have hc := comp_iff.2 h
  obtain ⟨f1, f2, _⟩ := tick_facts h fan
  have he := emc_range t d
  have hk1 := clampN_1 (w.fast * t / 200)
  have hk2 := clampN_1 (w.slow * t * 25 / (200 * th))
  have b1 := (tow_between h.c f1 (k := kC w th t) (by unfold kC; omega)).2
  have hst := h.st
  rw [tick, if_pos hc]
  refine ⟨?_, btw_iff.2 (by show (_ ≤ newC x w th t d fan ∧ _) ∨ _; unfold newC; omega), ?_, checkM_zero.2 ⟨f1, f2, ?_⟩, rfl⟩
  · cases fan
    · exact .inl rfl
    · right
      have := (tow_between h.s (b := emc t d) (by omega) (k := kS w t) (by unfold kS; omega)).2
      refine btw_iff.2 ?_
      show (_ ≤ newS x w t d true ∧ _) ∨ _
      unfold newS
      simp only [if_true]
      exact this
  · show x.st ≤ newSt x w th t d fan
    unfold newSt
    repeat' split
    all_goals omega
  · show 0 ≤ newSt x w th t d fan ∧ newSt x w th t d fan ≤ 1099511627776
    unfold newSt
    repeat' split
    all_goals omega
theorem tick_not {x : Cel} {w : Spc} {th t d : Int} (h : comp x w th t d = false) (fan : Bool) : tick x w th t d fan = x := by
  rw [tick, if_neg (by simp [h])]
/-- A greater speed comes nearer. -/
theorem part_mono {u k k' : Int} (hu : 0 ≤ u) (h : k' ≤ k) : part u k' ≤ part u k := by
  have := Int.ediv_le_ediv (c := 10000) (by omega) (mul_le_l u h hu)
  unfold part
  split <;> split <;> omega
theorem tow_near {a b k k' : Int} (h1 : 1 ≤ k') (h : k' ≤ k) (hk : k ≤ 10000) : size (tow a b k - b) ≤ size (tow a b k' - b) := by
  unfold tow
  have z1 : ¬ k = 0 := by omega
  have z2 : ¬ k' = 0 := by omega
  simp only [z1, z2, if_false]
  by_cases e : a = b
  · simp only [e, if_true]; exact Int.le_refl _
  · simp only [e, if_false]
    by_cases l : b < a
    · simp only [l, if_true]
      have m := part_mono (u := a - b) (by omega) h
      have p := part_le (u := a - b) (k := k) (by omega) (by omega)
      unfold size
      split <;> split <;> omega
    · simp only [l, if_false]
      have m := part_mono (u := b - a) (by omega) h
      have p := part_le (u := b - a) (k := k) (by omega) (by omega)
      unfold size
      split <;> split <;> omega
theorem clampN_mono {a b lo hi : Int} (h : a ≤ b) (hl : lo ≤ hi) : clampN a lo hi ≤ clampN b lo hi := by
  unfold clampN
  repeat' split
  all_goals omega
end Go.Proofs.Ytgngoijehjphoaa
