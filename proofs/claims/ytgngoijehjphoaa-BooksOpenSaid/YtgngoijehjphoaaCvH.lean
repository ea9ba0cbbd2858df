/-
  Plain laws of curves: the value at the points, between them and outside. No program in sight.
-/
import Derived.Test.YtgngoijehjphoaaCvD
namespace Go.Proofs.Ytgngoijehjphoaa
set_option linter.unusedSimpArgs false
set_option linter.unusedVariables false
open Go Go.Abs
set_option maxHeartbeats 2000000
set_option maxRecDepth 100000

theorem mul_le_l (c : Int) {a b : Int} (h : a ≤ b) (hc : 0 ≤ c) : c * a ≤ c * b := Int.mul_le_mul_of_nonneg_left h hc
theorem seg_end {s t : Int × Int} (h : s.1 < t.1) : seg s t t.1 = t.2 := by
  unfold seg
  rw [Int.mul_ediv_cancel _ (by omega)]
  omega
theorem seg_up {s t : Int × Int} {x : Int} (h : s.1 < t.1) (h1 : s.1 ≤ x) (h2 : x ≤ t.1) (hm : s.2 ≤ t.2) : s.2 ≤ seg s t x ∧ seg s t x ≤ t.2 := by
  unfold seg
  have e1 : 0 ≤ (t.2 - s.2) * (x - s.1) / (t.1 - s.1) := Int.ediv_nonneg (Int.mul_nonneg (by omega) (by omega)) (by omega)
  have e2 : (t.2 - s.2) * (x - s.1) / (t.1 - s.1) ≤ t.2 - s.2 := Int.ediv_le_of_le_mul (by omega) (Int.mul_le_mul_of_nonneg_left (by omega) (by omega))
  omega
theorem seg_down {s t : Int × Int} {x : Int} (h : s.1 < t.1) (h1 : s.1 ≤ x) (h2 : x ≤ t.1) (hm : t.2 ≤ s.2) : t.2 ≤ seg s t x ∧ seg s t x ≤ s.2 := by
  unfold seg
  have e1 : (t.2 - s.2) * (x - s.1) / (t.1 - s.1) ≤ 0 := Int.ediv_le_of_le_mul (by omega) (by
    have := Int.mul_nonneg (a := s.2 - t.2) (b := x - s.1) (by omega) (by omega)
    have e : (t.2 - s.2) * (x - s.1) = -((s.2 - t.2) * (x - s.1)) := by rw [← Int.neg_mul]; congr 1; omega
    omega)
  have e2 : t.2 - s.2 ≤ (t.2 - s.2) * (x - s.1) / (t.1 - s.1) := Int.le_ediv_of_mul_le (by omega) (by
    have := mul_le_l (s.2 - t.2) (a := x - s.1) (b := t.1 - s.1) (by omega) (by omega)
    have e : (t.2 - s.2) * (x - s.1) = -((s.2 - t.2) * (x - s.1)) := by rw [← Int.neg_mul]; congr 1; omega
    have e' : (t.2 - s.2) * (t.1 - s.1) = -((s.2 - t.2) * (t.1 - s.1)) := by rw [← Int.neg_mul]; congr 1; omega
    omega)
  omega
theorem seg_between {s t : Int × Int} {x : Int} (h : s.1 < t.1) (h1 : s.1 ≤ x) (h2 : x ≤ t.1) : min s.2 t.2 ≤ seg s t x ∧ seg s t x ≤ max s.2 t.2 := by
  by_cases hm : s.2 ≤ t.2
  · have := seg_up h h1 h2 hm; omega
  · have := seg_down h h1 h2 (by omega); omega
theorem seg_mono {s t : Int × Int} {x z : Int} (h : s.1 < t.1) (hx : x ≤ z) (hm : s.2 ≤ t.2) : seg s t x ≤ seg s t z := by
  unfold seg
  have := Int.ediv_le_ediv (a := (t.2 - s.2) * (x - s.1)) (b := (t.2 - s.2) * (z - s.1)) (c := t.1 - s.1) (by omega) (Int.mul_le_mul_of_nonneg_left (by omega) (by omega))
  omega
theorem interp_seg (x : Int) : ∀ (i : Nat) (s : Int × Int) (r : List (Int × Int)) (hi : i < r.length), ((s :: r).map (·.1)).Pairwise (· < ·) → ((s :: r)[i]'(by simp; omega)).1 < x → x ≤ r[i].1 →
    interp x s r = seg ((s :: r)[i]'(by simp; omega)) r[i] x
  | 0, s, t :: r, _, _, h1, h2 => by
    simp at h1 h2
    rw [interp, if_pos h2]
    simp
  | i + 1, s, t :: r, hi, hp, h1, h2 => by
    simp at hi h1 h2
    have hp' : ((t :: r).map (·.1)).Pairwise (· < ·) := by
      simp only [List.map_cons, List.pairwise_cons] at hp ⊢
      exact hp.2
    have ht : t.1 < x := by
      cases i with
      | zero => simpa using h1
      | succ j =>
        have := List.rel_of_pairwise_cons (by simpa using hp') (List.mem_map_of_mem (f := (·.1)) (List.getElem_mem (l := r) (n := j) (by omega)))
        simp at h1
        omega
    rw [interp, if_neg (by omega), interp_seg x i t r hi hp' h1 h2]
    simp
/-- The value between two neighbours. -/
theorem at_seg {l : List (Int × Int)} (hg : Good l) {x : Int} {i : Nat} (hi : i + 1 < l.length) (h1 : (l[i]'(by omega)).1 < x) (h2 : x ≤ l[i + 1].1) : at' l x = seg (l[i]'(by omega)) l[i + 1] x := by
  have hc := (good_iff l).2 hg
  rw [at_eq x hc (by omega)]
  cases l with
  | nil => simp at hi
  | cons p r =>
    have hup := hg.up
    have hp : p.1 < x := by
      cases i with
      | zero => simpa using h1
      | succ j =>
        have := List.rel_of_pairwise_cons (by simpa using hup) (List.mem_map_of_mem (f := (·.1)) (List.getElem_mem (l := r) (n := j) (by simp at hi; omega)))
        simp at h1
        omega
    simp at h2 hi
    simp only [List.getElem_cons_zero, List.drop_one, List.tail_cons]
    rw [if_neg (by omega), interp_seg x i p r hi hup h1 h2]
    simp
theorem at_low {l : List (Int × Int)} (hg : Good l) {x : Int} (hl : 0 < l.length) (h : x ≤ l[0].1) : at' l x = l[0].2 := by
  rw [at_eq x ((good_iff l).2 hg) hl, if_pos h]
theorem Good.pos {l : List (Int × Int)} (hg : Good l) : 0 < l.length := List.length_pos_iff.2 hg.ne
theorem Good.lt {l : List (Int × Int)} (hg : Good l) {i j : Nat} (hij : i < j) (hj : j < l.length) : (l[i]'(by omega)).1 < l[j].1 := by
  have := List.pairwise_iff_getElem.1 hg.up i j (by simp; omega) (by simpa using hj) hij
  simpa using this
/-- At its points a curve has their values. -/
theorem at_point {l : List (Int × Int)} (hg : Good l) {i : Nat} (hi : i < l.length) : at' l l[i].1 = l[i].2 := by
  cases i with
  | zero => exact at_low hg hi (Int.le_refl _)
  | succ j =>
    have h := hg.lt (Nat.lt_succ_self j) hi
    rw [at_seg hg hi h (Int.le_refl _), seg_end h]
/-- Where an x lies. -/
theorem place {l : List (Int × Int)} (hg : Good l) (x : Int) : x ≤ (l[0]'(hg.pos)).1 ∨ (∃ i, ∃ hi : i + 1 < l.length, (l[i]'(by omega)).1 < x ∧ x ≤ l[i + 1].1) ∨ (l[l.length - 1]'(by have := hg.pos; omega)).1 < x := by
  have hpos := hg.pos
  have key : ∀ k, ∀ hk : k < l.length, (l[k]'hk).1 < x ∨ x ≤ (l[0]'(hg.pos)).1 ∨ ∃ i, ∃ hi : i + 1 < l.length, (l[i]'(by omega)).1 < x ∧ x ≤ l[i + 1].1 := by
    intro k
    induction k with
    | zero => 
      intro hk
      by_cases h : x ≤ (l[0]'(hg.pos)).1
      · exact .inr (.inl h)
      · exact .inl (by omega)
    | succ k ih =>
      intro hk
      rcases ih (by omega) with h | h
      · by_cases h2 : x ≤ l[k + 1].1
        · exact .inr (.inr ⟨k, hk, h, h2⟩)
        · exact .inl (by omega)
      · exact .inr h
  rcases key (l.length - 1) (by omega) with h | h | h
  · exact .inr (.inr h)
  · exact .inl h
  · exact .inr (.inl h)
theorem hit_false (x : Int) : ∀ r : List (Int × Int), (∀ q ∈ r, q.1 < x) → hit x r = false
  | [], _ => rfl
  | t :: r, h => by
    have := h t (by simp)
    rw [hit, if_neg (by omega)]
    exact hit_false x r (fun q hq => h q (by simp [hq]))
theorem at_high {l : List (Int × Int)} (hg : Good l) {x : Int} (h : (l[l.length - 1]'(by have := hg.pos; omega)).1 ≤ x) : at' l x = (l[l.length - 1]'(by have := hg.pos; omega)).2 := by
  have hpos := hg.pos
  by_cases he : (l[l.length - 1]'(by omega)).1 = x
  · rw [← he]; exact at_point hg _
  · have hc := (good_iff l).2 hg
    have hall : ∀ q ∈ l, q.1 < x := by
      intro q hq
      obtain ⟨i, hi, rfl⟩ := List.mem_iff_getElem.1 hq
      by_cases hl : i = l.length - 1
      · subst hl; omega
      · have := hg.lt (i := i) (j := l.length - 1) (by omega) (by omega)
        omega
    rw [at_eq x hc hpos, if_neg (by have := hall _ (List.getElem_mem hpos); omega)]
    rw [interp_last x _ _ (hit_false x _ (fun q hq => hall q (List.mem_of_mem_drop hq)))]
    have h7 : ((l[0] :: l.drop 1).getLast (by simp)) = l[l.length - 1]'(by omega) := by
      rw [List.getLast_eq_getElem]
      cases l with
      | nil => simp at hpos
      | cons p r => simp
    rw [h7]
theorem at_between {l : List (Int × Int)} (hg : Good l) {x : Int} {i : Nat} (hi : i + 1 < l.length) (h1 : (l[i]'(by omega)).1 ≤ x) (h2 : x ≤ l[i + 1].1) : min (l[i]'(by omega)).2 l[i + 1].2 ≤ at' l x ∧ at' l x ≤ max (l[i]'(by omega)).2 l[i + 1].2 := by
  by_cases he : (l[i]'(by omega)).1 = x
  · rw [← he, at_point hg]; omega
  · rw [at_seg hg hi (by omega) h2]
    exact seg_between (hg.lt (Nat.lt_succ_self i) hi) h1 h2
/-- If the points up to one are below y, so are the values up to there. -/
theorem at_below {l : List (Int × Int)} (hg : Good l) {y : Int} {i : Nat} (hi : i < l.length) (hb : ∀ j, (hj : j ≤ i) → (l[j]'(by omega)).2 < y) {x : Int} (hx : x ≤ l[i].1) : at' l x < y := by
  rcases place hg x with h | ⟨k, hk, h1, h2⟩ | h
  · rw [at_low hg hg.pos h]; exact hb 0 (by omega)
  · have hki : k < i := by
      apply Classical.byContradiction
      intro hn
      by_cases he : k = i
      · subst he; omega
      · have := hg.lt (i := i) (j := k) (by omega) (by omega)
        omega
    have := at_between hg hk (by omega) h2
    have a := hb k (by omega)
    have b := hb (k + 1) (by omega)
    omega
  · by_cases he : i = l.length - 1
    · subst he; omega
    · have := hg.lt (i := i) (j := l.length - 1) (by omega) (by omega)
      omega
theorem at_all_below {l : List (Int × Int)} (hg : Good l) {y : Int} (hb : ∀ q ∈ l, q.2 < y) (x : Int) : at' l x < y := by
  have hpos := hg.pos
  by_cases h : x ≤ (l[l.length - 1]'(by omega)).1
  · exact at_below hg (by omega) (fun j hj => hb _ (List.getElem_mem _)) h
  · rw [at_high hg (by omega)]; exact hb _ (List.getElem_mem _)
end Go.Proofs.Ytgngoijehjphoaa
