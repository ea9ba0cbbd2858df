/-
  The moisture's functions, run abstractly: cells and their ticks.
-/
import Derived.Test.YtgngoijehjphoaaMoA
namespace Go.Proofs.Ytgngoijehjphoaa
set_option linter.unusedSimpArgs false
set_option linter.unusedVariables false
open Go Go.Abs
set_option maxHeartbeats 2000000
set_option maxRecDepth 100000
/-- A cell of wood. -/
structure Cel where
  s : Int
  c : Int
  st : Int
def eC (x : Cel) : List D := [I x.s, I x.c, I x.st]
@[simp] theorem eC_eq (x : Cel) : eC x = [I x.s, I x.c, I x.st] := rfl
/-- A species of wood. -/
structure Spc where
  name : ByteArray
  green : Int
  fast : Int
  slow : Int
  safe : Int
  grad : Int
  crack : Int
  temp : Int
  dep : Int
  dens : Int
  stiff : Int
  loss : Int
  shrink : Int
def eS (x : Spc) : List D := [S x.name, I x.green, I x.fast, I x.slow, I x.safe, I x.grad, I x.crack, I x.temp, I x.dep, I x.dens, I x.stiff, I x.loss, I x.shrink]
@[simp] theorem eS_eq (x : Spc) : eS x = [S x.name, I x.green, I x.fast, I x.slow, I x.safe, I x.grad, I x.crack, I x.temp, I x.dep, I x.dens, I x.stiff, I x.loss, I x.shrink] := rfl
def checkM (x : Cel) : Int := if x.s < 0 then 25 else if 20000 < x.s then 25 else if x.c < 0 then 25 else if 20000 < x.c then 25 else if x.st < 0 then 9 else if 1099511627776 < x.st then 9 else 0
theorem checkM_zero {x : Cel} : checkM x = 0 ↔ (0 ≤ x.s ∧ x.s ≤ 20000) ∧ (0 ≤ x.c ∧ x.c ≤ 20000) ∧ (0 ≤ x.st ∧ x.st ≤ 1099511627776) := by
  unfold checkM
  repeat' split
  all_goals simp <;> omega
/-- Whether a tick can be computed. -/
def comp (x : Cel) (w : Spc) (th t d : Int) : Bool := decide (checkM x = 0) && (decide (checkC t d = 0) && (decide (1 ≤ w.fast) && (decide (w.fast ≤ 10000) && (decide (1 ≤ w.slow) && (decide (w.slow ≤ 10000) && (decide (0 ≤ w.safe) && (decide (w.safe ≤ 20000) && (decide (1 ≤ th) && decide (th ≤ 600)))))))))
def mean (x : Cel) : Int := if checkM x = 0 then (x.s + 2 * x.c) / 3 else 0
def grad (x : Cel) : Int := if checkM x = 0 then x.c - x.s else 0
def cracks (x : Cel) (w : Spc) : Int := if checkM x = 0 then if w.crack < 1 then 0 else x.st / w.crack else 0
theorem cracks_div {x : Cel} {w : Spc} (hc : checkM x = 0) (hw : ¬ w.crack < 1) : ¬ w.crack = 0 ∧ x.st.tdiv w.crack = x.st / w.crack ∧ IntKind.i64.wrap (x.st / w.crack) = x.st / w.crack := by
  obtain ⟨_, _, h3⟩ := checkM_zero.1 hc
  have d2 : 0 ≤ x.st / w.crack := Int.ediv_nonneg (by omega) (by omega)
  have d3 : x.st / w.crack ≤ x.st := Int.ediv_le_self _ (by omega)
  exact ⟨by omega, Int.tdiv_eq_ediv_of_nonneg (by omega), wrap64 (by omega) (by omega)⟩
/-! ### A tick -/
def kS (w : Spc) (t : Int) : Int := clampN (w.fast * t / 200) 1 10000
def kC (w : Spc) (th t : Int) : Int := clampN (w.slow * t * 25 / (200 * th)) 1 10000
def newS (x : Cel) (w : Spc) (t d : Int) (fan : Bool) : Int := if fan = true then tow x.s (emc t d) (kS w t) else x.s
def newC (x : Cel) (w : Spc) (th t d : Int) (fan : Bool) : Int := tow x.c (newS x w t d fan) (kC w th t)
def newSt (x : Cel) (w : Spc) (th t d : Int) (fan : Bool) : Int :=
  if 1099511627776 < x.st + (if 0 < newC x w th t d fan - newS x w t d fan - w.safe then newC x w th t d fan - newS x w t d fan - w.safe else 0) then 1099511627776 else x.st + (if 0 < newC x w th t d fan - newS x w t d fan - w.safe then newC x w th t d fan - newS x w t d fan - w.safe else 0)
def tick (x : Cel) (w : Spc) (th t d : Int) (fan : Bool) : Cel := if comp x w th t d = true then ⟨newS x w t d fan, newC x w th t d fan, newSt x w th t d fan⟩ else x
theorem tow_between {a b k : Int} (ha : 0 ≤ a ∧ a ≤ 20000) (hb : 0 ≤ b ∧ b ≤ 20000) (hk : 0 ≤ k ∧ k ≤ 10000) : (0 ≤ tow a b k ∧ tow a b k ≤ 20000) ∧ ((a ≤ tow a b k ∧ tow a b k ≤ b) ∨ (b ≤ tow a b k ∧ tow a b k ≤ a)) := by
  unfold tow
  split
  · omega
  · split
    · omega
    · split
      · have := part_le (u := a - b) (k := k) (by omega) hk; omega
      · have := part_le (u := b - a) (k := k) (by omega) hk; omega
theorem clampN_1 (n : Int) : 1 ≤ clampN n 1 10000 ∧ clampN n 1 10000 ≤ 10000 := by
  unfold clampN
  repeat' split
  all_goals omega
structure Comp (x : Cel) (w : Spc) (th t d : Int) : Prop where
  s : 0 ≤ x.s ∧ x.s ≤ 20000
  c : 0 ≤ x.c ∧ x.c ≤ 20000
  st : 0 ≤ x.st ∧ x.st ≤ 1099511627776
  t : 0 ≤ t ∧ t ≤ 1200
  d : 0 ≤ d ∧ d ≤ 400
  fast : 1 ≤ w.fast ∧ w.fast ≤ 10000
  slow : 1 ≤ w.slow ∧ w.slow ≤ 10000
  safe : 0 ≤ w.safe ∧ w.safe ≤ 20000
  th : 1 ≤ th ∧ th ≤ 600
theorem comp_iff {x : Cel} {w : Spc} {th t d : Int} : comp x w th t d = true ↔ Comp x w th t d := by
  unfold comp
  simp only [Bool.and_eq_true, decide_eq_true_eq, checkM_zero, checkC_zero]
  constructor
  · rintro ⟨⟨a, b, c⟩, ⟨d, e, f, g⟩, h, i, j, k, l, m, n, o⟩
    exact ⟨a, b, c, ⟨d, e⟩, ⟨f, g⟩, ⟨h, i⟩, ⟨j, k⟩, ⟨l, m⟩, ⟨n, o⟩⟩
  · rintro ⟨a, b, c, ⟨d, e⟩, ⟨f, g⟩, ⟨h, i⟩, ⟨j, k⟩, ⟨l, m⟩, ⟨n, o⟩⟩
    exact ⟨⟨a, b, c⟩, ⟨d, e, f, g⟩, h, i, j, k, l, m, n, o⟩
theorem tick_facts {x : Cel} {w : Spc} {th t d : Int} (h : Comp x w th t d) (fan : Bool) :
    (0 ≤ newS x w t d fan ∧ newS x w t d fan ≤ 20000) ∧ (0 ≤ newC x w th t d fan ∧ newC x w th t d fan ≤ 20000) ∧
    IntKind.i64.wrap (w.fast * t) = w.fast * t ∧ (w.fast * t).tdiv 200 = w.fast * t / 200 ∧ IntKind.i64.wrap (w.fast * t / 200) = w.fast * t / 200 ∧
    IntKind.i64.wrap (w.slow * t) = w.slow * t ∧ IntKind.i64.wrap (w.slow * t * 25) = w.slow * t * 25 ∧ IntKind.i64.wrap (200 * th) = 200 * th ∧ (¬ 200 * th = 0) ∧
    (w.slow * t * 25).tdiv (200 * th) = w.slow * t * 25 / (200 * th) ∧ IntKind.i64.wrap (w.slow * t * 25 / (200 * th)) = w.slow * t * 25 / (200 * th) ∧
    IntKind.i64.wrap (newC x w th t d fan - newS x w t d fan) = newC x w th t d fan - newS x w t d fan ∧ IntKind.i64.wrap (newC x w th t d fan - newS x w t d fan - w.safe) = newC x w th t d fan - newS x w t d fan - w.safe ∧
    IntKind.i64.wrap (x.st + (if 0 < newC x w th t d fan - newS x w t d fan - w.safe then newC x w th t d fan - newS x w t d fan - w.safe else 0)) = x.st + (if 0 < newC x w th t d fan - newS x w t d fan - w.safe then newC x w th t d fan - newS x w t d fan - w.safe else 0) := by
  have hk1 := clampN_1 (w.fast * t / 200)
  have hk2 := clampN_1 (w.slow * t * 25 / (200 * th))
  have he := emc_range t d
  have hs : 0 ≤ newS x w t d fan ∧ newS x w t d fan ≤ 20000 := by
    unfold newS
    split
    · exact (tow_between h.s (by omega) (by unfold kS; omega)).1
    · exact h.s
  have hc : 0 ≤ newC x w th t d fan ∧ newC x w th t d fan ≤ 20000 := (tow_between h.c hs (by unfold kC; omega)).1
  have h1 := h.t; have h2 := h.fast; have h3 := h.slow; have h4 := h.th; have h5 := h.safe; have h6 := h.st
  have m1 : 0 ≤ w.fast * t := Int.mul_nonneg (by omega) (by omega)
  have m2 : w.fast * t ≤ 10000 * 1200 := Int.mul_le_mul (by omega) (by omega) (by omega) (by omega)
  have m3 : 0 ≤ w.slow * t := Int.mul_nonneg (by omega) (by omega)
  have m4 : w.slow * t ≤ 10000 * 1200 := Int.mul_le_mul (by omega) (by omega) (by omega) (by omega)
  have m5 : 0 ≤ w.slow * t * 25 / (200 * th) := Int.ediv_nonneg (by omega) (by omega)
  have m6 : w.slow * t * 25 / (200 * th) ≤ w.slow * t * 25 := Int.ediv_le_self _ (by omega)
  refine ⟨hs, hc, wrap64 (by omega) (by omega), Int.tdiv_eq_ediv_of_nonneg m1, wrap64 (by omega) (by omega), wrap64 (by omega) (by omega), wrap64 (by omega) (by omega), wrap64 (by omega) (by omega), by omega,
    Int.tdiv_eq_ediv_of_nonneg (by omega), wrap64 (by omega) (by omega), wrap64 (by omega) (by omega), wrap64 (by omega) (by omega), ?_⟩
  split <;> exact wrap64 (by omega) (by omega)
end Go.Proofs.Ytgngoijehjphoaa
