/-
  The statement CurveFirst, run abstractly.
-/
import Derived.Test.YtcgghmmljpikdaaCvH
namespace Go.Proofs.Ytcgghmmljpikdaa
set_option linter.unusedSimpArgs false
set_option linter.unusedVariables false
open Go Go.Abs
set_option maxHeartbeats 2000000
set_option maxRecDepth 100000

/-- Whether a point is high enough. -/
def high (y : Int) (b : Bool) : List (Int × Int) → Bool
  | [] => b
  | q :: r => high y (b || decide (y ≤ q.2)) r
theorem high_iff (y : Int) : ∀ (l : List (Int × Int)) (b : Bool), high y b l = true ↔ b = true ∨ ∃ q ∈ l, y ≤ q.2
  | [], b => by simp [high]
  | q :: r, b => by rw [high, high_iff y r]; simp [or_assoc]
theorem first_loop (l : List (Int × Int)) (hg : Good l) (y x : Int) (d7 d8 : D) : ∀ (n i : Nat) (b : Bool), i ≤ l.length → l.length - i < n →
    L_law08_CurveFirst 6 n ⟨[(0, .sl (l.map eP)), (1, I y), (2, I x), (6, .any), (7, d7), (8, d8), (9, B b), (10, I i)], []⟩ =
      some (.ex 0, ⟨[(0, .sl (l.map eP)), (1, I y), (2, I x), (6, .any), (7, d7), (8, d8), (9, B (high y b (l.drop i))), (10, .any)], []⟩)
  | 0, i, _, _, hn => by omega
  | n + 1, i, b, hi, hn => by
    rw [L_law08_CurveFirst_succ, R_law08_CurveFirst_eq]
    have hlen := hg.len
    by_cases h : i < l.length
    · have h1 := List.getElem?_eq_getElem h
      have h3 : (i : Int) < l.length := by omega
      have hw := wrapN (n := i) (by omega)
      have ih := fun b => first_loop l hg y x d7 d8 n (i + 1) b (by omega) (by omega)
      simp only [Int.natCast_add, Int.natCast_one] at ih
      rw [List.drop_eq_getElem_cons h, high]
      cases b <;> simp [h1, h3, hw, ih]
    · have h3 : ¬ (i : Int) < l.length := by omega
      have h4 : l.drop i = [] := List.drop_of_length_le (by omega)
      simp [h3, h4, high]
theorem reach_none {l : List (Int × Int)} (hg : Good l) {y : Int} (h : reach l y = none) : ∀ q ∈ l, q.2 < y := by
  have hpos := hg.pos
  rw [reach_eq y ((good_iff l).2 hg) hpos] at h
  split at h
  · cases h
  · rename_i hn
    have := rch_none y _ _ h
    intro q hq
    cases l with
    | nil => simp at hpos
    | cons p r =>
      rcases List.mem_cons.1 hq with rfl | hq
      · simpa using hn
      · exact this q hq
theorem reach_some {l : List (Int × Int)} (hg : Good l) {y v : Int} (h : reach l y = some v) : (∃ q ∈ l, y ≤ q.2) ∧ (l[0]'hg.pos).1 ≤ v ∧ v ≤ (l[l.length - 1]'(by have := hg.pos; omega)).1 ∧ y ≤ at' l v ∧ ∀ x, x < v → (l[0]'hg.pos).1 ≤ x → at' l x < y := by
  have hpos := hg.pos
  rw [reach_eq y ((good_iff l).2 hg) hpos] at h
  have hlast : ∀ i, (hi : i < l.length) → l[i].1 ≤ (l[l.length - 1]'(by omega)).1 := by
    intro i hi
    by_cases he : i = l.length - 1
    · subst he; omega
    · have := hg.lt (i := i) (j := l.length - 1) (by omega) (by omega); omega
  have hfst : ∀ i, (hi : i < l.length) → (l[0]'hpos).1 ≤ l[i].1 := by
    intro i hi
    by_cases he : i = 0
    · subst he; omega
    · have := hg.lt (i := 0) (j := i) (by omega) (by omega); omega
  split at h
  · rename_i hy
    cases h
    refine ⟨⟨_, List.getElem_mem hpos, hy⟩, Int.le_refl _, hlast 0 hpos, by rw [at_point hg hpos]; exact hy, fun x h1 h2 => by omega⟩
  · rename_i hn
    obtain ⟨i, hi, h1, h2, h3⟩ := rch_some y _ _ _ (by omega) h
    have hil : i + 1 < l.length := by simp at hi; omega
    have e1 : l.tail[i] = l[i + 1] := by simp
    have e2 : ∀ j, (hj : j < l.length) → (l[0] :: l.tail)[j]'(by simp; omega) = l[j] := by
      intro j hj
      cases l with
      | nil => simp at hpos
      | cons p r => simp
    rw [e1] at h2
    rw [e1, e2 i (by omega)] at h3
    have hlt := hg.lt (i := i) (j := i + 1) (by omega) hil
    have hb : ∀ j, (hj : j ≤ i) → (l[j]'(by omega)).2 < y := by
      intro j hj
      have := h1 j hj
      rw [e2 j (by omega)] at this
      exact this
    obtain ⟨f1, f2, f3, f4⟩ := firstX_spec hlt (hb i (Nat.le_refl _)) h2
    rw [← h3] at f1 f2 f3 f4
    refine ⟨⟨_, List.getElem_mem hil, h2⟩, ?_, ?_, ?_, ?_⟩
    · have := hfst i (by omega); omega
    · have := hlast (i + 1) hil; omega
    · rw [at_seg hg hil f1 f2]; exact f3
    · intro x hx _
      by_cases hxi : x ≤ (l[i]'(by omega)).1
      · exact at_below hg (by omega) hb hxi
      · rw [at_seg hg hil (by omega) (by omega)]; exact f4 x hx
theorem first_law (l : List (Int × Int)) (y x : Int) (hb : l.length ≤ 9223372036854775807) (hy : -9223372036854775808 ≤ y ∧ y ≤ 9223372036854775807) : F_law08_CurveFirst [.sl (l.map eP), I y, I x] = some (B true) := by
  rw [F_law08_CurveFirst_eq]
  by_cases hl : (l.length : Int) ≤ 100
  · by_cases hc : check l = 0
    · have hg := (good_iff l).1 hc
      have hpos := hg.pos
      have ih := fun d7 d8 => first_loop l hg y x d7 d8 bigL 0 false (by omega) (by have := bigL_ge; omega)
      have h4 := wrapP (n := l.length) (by omega) (by omega)
      have h1 := List.getElem?_eq_getElem hpos
      have h6 := List.getElem?_eq_getElem (l := l) (i := l.length - 1) (by omega)
      simp at ih
      have hh := high_iff y l false
      simp at hh
      simp [lsmall_run, hl, rcheck_run l hb, hc, at_run l _ hb, reach_run l _ hb, eO, awake_run, ih, h1, h4, h6]
      cases hr : reach l y with
      | none =>
        have h := reach_none hg hr
        have hf : high y false l = false := by
          cases hx : high y false l
          · rfl
          · obtain ⟨a, b, h1, h2⟩ := hh.1 hx
            have := h _ h1
            simp at this
            omega
        simp [hf, at_all_below hg h x]
      | some v =>
        obtain ⟨⟨q, hq, hq2⟩, h1, h2, h3, h4⟩ := reach_some hg hr
        have hf : high y false l = true := hh.2 ⟨q.1, q.2, hq, hq2⟩
        have r1 := hg.rng _ (List.getElem_mem hpos)
        have r2 := hg.rng _ (List.getElem_mem (l := l) (n := l.length - 1) (by omega))
        have hw : IntKind.i64.wrap (v - 1) = v - 1 := wrap64 (by omega) (by omega)
        have hx : x < l[0].1 ∨ v ≤ x ∨ at' l x < y := by
          by_cases c1 : x < l[0].1
          · exact .inl c1
          · by_cases c2 : v ≤ x
            · exact .inr (.inl c2)
            · exact .inr (.inr (h4 x (by omega) (by omega)))
        simp [hf, h1, h2, h3, hw, hx]
        intro h5
        exact h4 (v - 1) (by omega) (by omega)
    · simp [lsmall_run, hl, rcheck_run l hb, hc, awake_run]
  · simp [lsmall_run, hl, awake_run]
end Go.Proofs.Ytcgghmmljpikdaa
