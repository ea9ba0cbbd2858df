/-
  The curve's functions of the program, run abstractly: Check, floor, At.
-/
import Derived.Test.YtgngoijehjphoaaGen
namespace Go.Proofs.Ytgngoijehjphoaa
set_option linter.unusedSimpArgs false
set_option linter.unusedVariables false
open Go Go.Abs
set_option maxHeartbeats 2000000
set_option maxRecDepth 100000
abbrev I (n : Int) : D := .x (.int .i64 n)
abbrev B (b : Bool) : D := .x (.bool b)
theorem wrapN {n : Nat} (h : n < 9223372036854775807) : IntKind.i64.wrap ((n : Int) + 1) = (n : Int) + 1 := wrap64 (by omega) (by omega)
theorem wrapP {n : Nat} (h0 : n ≠ 0) (h : n ≤ 9223372036854775807) : IntKind.i64.wrap ((n : Int) - 1) = ((n - 1 : Nat) : Int) := by rw [wrap64] <;> omega
/-- A number that may stand in a curve. -/
def inR (n : Int) : Bool := decide (-1000000 ≤ n) && decide (n ≤ 1000000)
theorem inR_iff {n : Int} : inR n = true ↔ -1000000 ≤ n ∧ n ≤ 1000000 := by simp [inR]
/-- A point's cells. -/
def eP (p : Int × Int) : List D := [I p.1, I p.2]
/-- A number's cells. -/
def eI (n : Int) : List D := [I n]
@[simp] theorem eP_eq (p : Int × Int) : eP p = [I p.1, I p.2] := rfl
@[simp] theorem eI_eq (n : Int) : eI n = [I n] := rfl

/-! ### Check -/
def notUp (p : Option Int) (x : Int) : Bool := match p with
  | some y => decide (x ≤ y)
  | none => false
@[simp] theorem notUp_none (x : Int) : notUp none x = false := rfl
@[simp] theorem notUp_some (x y : Int) : notUp (some y) x = decide (x ≤ y) := rfl
/-- The first error of points behind a number, if there was one. -/
def chk (p : Option Int) : List (Int × Int) → Int
  | [] => 0
  | q :: r => if (inR q.1 && inR q.2) = false then 9 else if notUp p q.1 = true then 11 else chk (some q.1) r
/-- The number before a place. -/
def prv (l : List (Int × Int)) (i : Nat) : Option Int := if i = 0 then none else l[i - 1]?.map (·.1)
theorem prv_zero (l : List (Int × Int)) : prv l 0 = none := rfl
theorem prv_succ {l : List (Int × Int)} {i : Nat} (h : i < l.length) : prv l (i + 1) = some l[i].1 := by simp [prv, h]
theorem prv_pos {l : List (Int × Int)} {i : Nat} (h0 : i ≠ 0) (h : i < l.length) : prv l i = some (l[i - 1]'(by omega)).1 := by
  have : i - 1 < l.length := by omega
  simp [prv, h0, this]
def check (l : List (Int × Int)) : Int := if l = [] then 3 else if 16 < (l.length : Int) then 4 else chk none l
/-! ### What a good curve is -/
theorem chk_zero : ∀ (l : List (Int × Int)) (p : Option Int), chk p l = 0 → (∀ q ∈ l, inR q.1 = true ∧ inR q.2 = true) ∧ (l.map (·.1)).Pairwise (· < ·) ∧ ∀ y, p = some y → ∀ q ∈ l, y < q.1
  | [], p, _ => by simp
  | q :: r, p, h => by
    unfold chk at h
    split at h
    · cases h
    · rename_i h1
      split at h
      · cases h
      · rename_i h2
        obtain ⟨a, b, c⟩ := chk_zero r (some q.1) h
        simp at h1
        have c' := c q.1 rfl
        refine ⟨?_, ?_, ?_⟩
        · intro x hx
          rcases List.mem_cons.1 hx with rfl | hx
          · exact h1
          · exact a x hx
        · simp only [List.map_cons, List.pairwise_cons]
          refine ⟨?_, b⟩
          intro x hx
          obtain ⟨z, hz, rfl⟩ := List.mem_map.1 hx
          exact c' z hz
        · rintro y rfl x hx
          simp at h2
          rcases List.mem_cons.1 hx with rfl | hx
          · exact h2
          · exact Int.lt_trans h2 (c' x hx)
theorem zero_chk : ∀ (l : List (Int × Int)) (p : Option Int), (∀ q ∈ l, inR q.1 = true ∧ inR q.2 = true) → (l.map (·.1)).Pairwise (· < ·) → (∀ y, p = some y → ∀ q ∈ l, y < q.1) → chk p l = 0
  | [], p, _, _, _ => rfl
  | q :: r, p, h1, h2, h3 => by
    have hq := h1 q (by simp)
    simp only [List.map_cons, List.pairwise_cons] at h2
    unfold chk
    have hn : notUp p q.1 = false := by
      cases p with
      | none => rfl
      | some y => have := h3 y rfl q (by simp); simp; omega
    simp only [hq.1, hq.2, hn, Bool.and_self, Bool.true_eq_false, Bool.false_eq_true, if_false]
    refine zero_chk r _ (fun x hx => h1 x (by simp [hx])) h2.2 ?_
    rintro y hy x hx
    cases hy
    exact h2.1 _ (List.mem_map_of_mem hx)
/-- A good curve. -/
structure Good (l : List (Int × Int)) : Prop where
  ne : l ≠ []
  len : l.length ≤ 16
  rng : ∀ q ∈ l, (-1000000 ≤ q.1 ∧ q.1 ≤ 1000000) ∧ (-1000000 ≤ q.2 ∧ q.2 ≤ 1000000)
  up : (l.map (·.1)).Pairwise (· < ·)
theorem good_iff (l : List (Int × Int)) : check l = 0 ↔ Good l := by
  unfold check
  constructor
  · intro h
    split at h
    · cases h
    · split at h
      · cases h
      · obtain ⟨a, b, _⟩ := chk_zero l none h
        refine ⟨by assumption, by omega, fun q hq => ?_, b⟩
        have := a q hq
        rw [inR_iff, inR_iff] at this
        exact this
  · intro h
    have := h.len
    rw [if_neg h.ne, if_neg (by omega)]
    exact zero_chk l none (fun q hq => by rw [inR_iff, inR_iff]; exact h.rng q hq) h.up (fun y hy => by cases hy)

/-! ### floor -/
theorem floor_val {a b : Int} (hb : 0 < b) : (if a.tmod b < 0 then a.tdiv b - 1 else a.tdiv b) = a / b := by
  have h1 := Int.mul_tdiv_add_tmod a b
  have h2 := Int.tmod_lt_of_pos a hb
  have h3 := Int.lt_tmod_of_pos a hb
  symm
  split
  · rw [Int.ediv_eq_iff_of_pos hb]
    constructor <;> (try rw [Int.sub_mul]) <;> (try rw [Int.add_mul]) <;> rw [Int.mul_comm] at h1 <;> omega
  · rw [Int.ediv_eq_iff_of_pos hb]
    constructor <;> (try rw [Int.add_mul]) <;> rw [Int.mul_comm] at h1 <;> omega
theorem tdiv_abs (a b : Int) (hb : 0 < b) : -(a.natAbs : Int) ≤ a.tdiv b ∧ a.tdiv b ≤ a.natAbs := by
  have h := Int.natAbs_tdiv_le_natAbs a b
  omega
/-! ### At -/
/-- The value between two points. -/
def seg (s t : Int × Int) (x : Int) : Int := s.2 + (t.2 - s.2) * (x - s.1) / (t.1 - s.1)
def interp (x : Int) (s : Int × Int) : List (Int × Int) → Int
  | [] => s.2
  | t :: r => if x ≤ t.1 then seg s t x else interp x t r
/-- Whether a point lies at x or behind it. -/
def hit (x : Int) : List (Int × Int) → Bool
  | [] => false
  | t :: r => if x ≤ t.1 then true else hit x r
def at' (l : List (Int × Int)) (x : Int) : Int := if check l = 0 then
    match l with
    | [] => 0
    | p :: r => if x ≤ p.1 then p.2 else interp x p r
  else 0
theorem mul_bound {a b A C : Int} (h1 : -A ≤ a) (h2 : a ≤ A) (h3 : 0 ≤ b) (h4 : b ≤ C) (hA : 0 ≤ A) : -(A * C) ≤ a * b ∧ a * b ≤ A * C := by
  have e1 : a * b ≤ A * b := Int.mul_le_mul_of_nonneg_right h2 h3
  have e2 : -A * b ≤ a * b := Int.mul_le_mul_of_nonneg_right h1 h3
  have e3 : A * b ≤ A * C := Int.mul_le_mul_of_nonneg_left h4 hA
  rw [Int.neg_mul] at e2
  omega
/-- Between two points of a curve nothing overflows. -/
theorem seg_wraps {s t : Int × Int} {x : Int} (hs : (-1000000 ≤ s.1 ∧ s.1 ≤ 1000000) ∧ (-1000000 ≤ s.2 ∧ s.2 ≤ 1000000)) (ht : (-1000000 ≤ t.1 ∧ t.1 ≤ 1000000) ∧ (-1000000 ≤ t.2 ∧ t.2 ≤ 1000000)) (h1 : s.1 < x) (h2 : x ≤ t.1) :
    IntKind.i64.wrap (t.2 - s.2) = t.2 - s.2 ∧ IntKind.i64.wrap (x - s.1) = x - s.1 ∧ IntKind.i64.wrap (t.1 - s.1) = t.1 - s.1 ∧ IntKind.i64.wrap ((t.2 - s.2) * (x - s.1)) = (t.2 - s.2) * (x - s.1) ∧
    (-4611686018427387904 ≤ (t.2 - s.2) * (x - s.1) ∧ (t.2 - s.2) * (x - s.1) ≤ 4611686018427387904) ∧ IntKind.i64.wrap (s.2 + (t.2 - s.2) * (x - s.1) / (t.1 - s.1)) = s.2 + (t.2 - s.2) * (x - s.1) / (t.1 - s.1) := by
  have hm := mul_bound (a := t.2 - s.2) (b := x - s.1) (A := 2000000) (C := 2000000) (by omega) (by omega) (by omega) (by omega) (by omega)
  have hd : 0 < t.1 - s.1 := by omega
  have e1 : (t.2 - s.2) * (x - s.1) / (t.1 - s.1) ≤ 4000000000000 := Int.ediv_le_of_le_mul hd (by
    have : (4000000000000 : Int) * 1 ≤ 4000000000000 * (t.1 - s.1) := Int.mul_le_mul_of_nonneg_left (by omega) (by omega)
    omega)
  have e2 : -4000000000000 ≤ (t.2 - s.2) * (x - s.1) / (t.1 - s.1) := Int.le_ediv_of_mul_le hd (by
    have : (4000000000000 : Int) * 1 ≤ 4000000000000 * (t.1 - s.1) := Int.mul_le_mul_of_nonneg_left (by omega) (by omega)
    omega)
  refine ⟨wrap64 (by omega) (by omega), wrap64 (by omega) (by omega), wrap64 (by omega) (by omega), wrap64 (by omega) (by omega), ⟨by omega, by omega⟩, wrap64 (by omega) (by omega)⟩
/-- Neighbours of a good curve. -/
theorem Good.pair {l : List (Int × Int)} (h : Good l) {i : Nat} (h0 : 0 < i) (hi : i < l.length) : (l[i - 1]'(by omega)).1 < l[i].1 := by
  have := List.pairwise_iff_getElem.1 h.up (i - 1) i (by simp; omega) (by simp; omega) (by omega)
  simpa using this
theorem interp_last (x : Int) : ∀ (r : List (Int × Int)) (s : Int × Int), hit x r = false → interp x s r = ((s :: r).getLast (by simp)).2
  | [], s, _ => rfl
  | t :: r, s, h => by
    unfold hit at h
    split at h
    · cases h
    · rename_i hn
      rw [interp, if_neg hn, interp_last x r t h]
      simp
theorem at_eq {l : List (Int × Int)} (x : Int) (hc : check l = 0) (hl : 0 < l.length) : at' l x = if x ≤ l[0].1 then l[0].2 else interp x l[0] (l.drop 1) := by
  rw [at'.eq_def, if_pos hc]
  cases l with
  | nil => simp at hl
  | cons p r => rfl
end Go.Proofs.Ytgngoijehjphoaa
