/-
  The reference's counts and sizes of defects, run abstractly.
-/
import Derived.Test.YtjhlidaikegelaaGreatFtS
namespace Go.Proofs.YtjhlidaikegelaaGreat
set_option linter.unusedSimpArgs false
set_option linter.unusedVariables false
open Go Go.Abs
set_option maxHeartbeats 8000000
set_option maxRecDepth 100000
theorem rlen3_run (a b : Int) (ha : i64 a) (hb : i64 b) : F_ref03_Len [.agg [I a, I b]] = some (I (lenS a b)) := by
  rw [F_ref03_Len_eq]
  unfold i64 at ha hb
  unfold lenS
  by_cases c : b ≤ a
  · simp [c]
  by_cases c2 : a < 0
  · have w : IntKind.i64.wrap (9223372036854775807 + a) = 9223372036854775807 + a := wrap64 (by omega) (by omega)
    by_cases c3 : 9223372036854775807 + a < b
    · have c4 : 9223372036854775807 < b - a := by omega
      simp [c, c2, w, c3, c4]
    · have c4 : ¬ 9223372036854775807 < b - a := by omega
      have w2 : IntKind.i64.wrap (b - a) = b - a := wrap64 (by omega) (by omega)
      simp [c, c2, w, c3, c4, w2]
  · have c4 : ¬ 9223372036854775807 < b - a := by omega
    have w2 : IntKind.i64.wrap (b - a) = b - a := wrap64 (by omega) (by omega)
    simp [c, c2, c4, w2]
theorem rdsize_run (d : Dfc) (h : Rng d) : F_ref13_Size [.agg (eDf d)] = some (I (sizeD d)) := by
  rw [F_ref13_Size_eq]
  have h1 := rlen3_run d.xa d.xb h.xa h.xb
  have h2 := rlen3_run d.ya d.yb h.ya h.yb
  unfold sizeD
  simp [h1, h2]
theorem rcount_loop (l : List Dfc) (k : Int) (hl : l.length ≤ 1000) : ∀ (n i : Nat) (r : List Dfc), l.drop i = r → r.length < n → ∀ s : Int, 0 ≤ s → s ≤ i →
    L_ref13_Count 3 n ⟨[(0, .sl (l.map eDf)), (1, I k), (4, .any), (5, I s), (6, I i)], []⟩ =
      some (.ex 0, ⟨[(0, .any), (1, .any), (4, .any), (5, I (cntD k s r)), (6, .any)], []⟩) := by
  refine lind l _ ?_ ?_
  · intro n i hr s h0 h1
    rw [L_ref13_Count_succ, R_ref13_Count_eq]
    simp [dn hr, cntD]
  · intro n i d r hr hi ih s h0 hs
    rw [L_ref13_Count_succ, R_ref13_Count_eq]
    obtain ⟨h1, h3, hr', _⟩ := dc (enc := eDf) hr
    have hw := wrapN (n := i) (by omega)
    have ws : IntKind.i64.wrap (s + 1) = s + 1 := wrap64 (by omega) (by omega)
    unfold cntD
    by_cases c : d.kind = k
    · have ih' := ih (s + 1) (by omega) (by omega)
      simp at ih'
      simp [h1, h3, c, hw, ws, ih']
    · have ih' := ih s (by omega) (by omega)
      simp at ih'
      simp [h1, h3, c, hw, ih']
theorem rcount_run (l : List Dfc) (k : Int) (hl : l.length ≤ 1000) : F_ref13_Count [.sl (l.map eDf), I k] = some (I (cntD k 0 l)) := by
  rw [F_ref13_Count_eq]
  have ih := rcount_loop l k hl bigL 0 l rfl (by have := bigL_ge; omega) 0 (by omega) (by omega)
  simp at ih
  simp [ih]
theorem rlargest_loop (l : List Dfc) (k : Int) (hl : l.length ≤ 1000) (hg : ∀ d ∈ l, Rng d) : ∀ (n i : Nat) (r : List Dfc), l.drop i = r → r.length < n → ∀ s : Int,
    L_ref13_Largest 3 n ⟨[(0, .sl (l.map eDf)), (1, I k), (4, .any), (5, I s), (6, I i)], []⟩ =
      some (.ex 0, ⟨[(0, .any), (1, .any), (4, .any), (5, I (lrgD k s r)), (6, .any)], []⟩) := by
  refine lind l _ ?_ ?_
  · intro n i hr s
    rw [L_ref13_Largest_succ, R_ref13_Largest_eq]
    simp [dn hr, lrgD]
  · intro n i d r hr hi ih s
    rw [L_ref13_Largest_succ, R_ref13_Largest_eq]
    obtain ⟨h1, h3, hr', _⟩ := dc (enc := eDf) hr
    have hw := wrapN (n := i) (by omega)
    have hz := rdsize_run d (hg d (List.mem_of_mem_drop (hr ▸ List.mem_cons_self : d ∈ l.drop i)))
    simp at hz
    unfold lrgD
    by_cases c : d.kind = k
    · have ih' := ih (if s < sizeD d then sizeD d else s)
      simp at ih'
      rw [c] at hz
      simp [h1, h3, c, hz, hw, ih']
    · have ih' := ih s
      simp at ih'
      simp [h1, h3, c, hw, ih']
theorem rlargest_run (l : List Dfc) (k : Int) (hl : l.length ≤ 1000) (hg : ∀ d ∈ l, Rng d) : F_ref13_Largest [.sl (l.map eDf), I k] = some (I (lrgD k 0 l)) := by
  rw [F_ref13_Largest_eq]
  have ih := rlargest_loop l k hl hg bigL 0 l rfl (by have := bigL_ge; omega) 0
  simp at ih
  simp [ih]
theorem rknot_run (d : Dfc) : F_ref13_Knot [.agg (eDf d)] = some (B (knotB d)) := by
  rw [F_ref13_Knot_eq]
  simp [knotB]
theorem rmeet_run (a b c d : Int) : F_ref03_Meet [.agg [I a, I b], .agg [I c, I d]] = some (.agg [I (if meetB a b c d = true then if a < c then c else a else 0), I (if meetB a b c d = true then if d < b then d else b else 0)]) := by
  rw [F_ref03_Meet_eq]
  have e : ∀ x y : Int, (if y ≤ x then (0 : Int) else x) = if decide (x < y) = true then x else 0 := by
    intro x y
    by_cases h : x < y
    · have : ¬ y ≤ x := by omega
      simp [h, this]
    · have : y ≤ x := by omega
      simp [h, this]
  have e' : ∀ x y : Int, (if y ≤ x then (0 : Int) else y) = if decide (x < y) = true then y else 0 := by
    intro x y
    by_cases h : x < y
    · have : ¬ y ≤ x := by omega
      simp [h, this]
    · have : y ≤ x := by omega
      simp [h, this]
  simp
  unfold meetB
  rw [e, e']
  exact ⟨by simp, by simp⟩
theorem meet_lt (a b c d : Int) : decide ((if meetB a b c d = true then if a < c then c else a else 0) < (if meetB a b c d = true then if d < b then d else b else 0)) = meetB a b c d := by
  cases h : meetB a b c d
  · simp
  · simp [meetB] at h
    simp
    exact h
theorem rsum_loop (l : List Dfc) (hl : l.length ≤ 64) (hd : ∀ d ∈ l, dfE d = 0) (z0 z1 : Int) : ∀ (n i : Nat) (r : List Dfc), l.drop i = r → r.length < n → ∀ s : Int, 0 ≤ s → s ≤ 1200 * i →
    L_ref13_window 3 n ⟨[(0, .sl (l.map eDf)), (1, .any), (3, .ptr 3 0), (4, .any), (5, I s), (6, I i), (7, .any)], [(3, .box 23 [I z0, I z1])]⟩ =
      some (.ex 0, ⟨[(0, .any), (1, .any), (3, .any), (4, .any), (5, I (sumW z0 z1 s r)), (6, .any), (7, .any)], []⟩) := by
  refine lind l _ ?_ ?_
  · intro n i hr s h0 h1
    rw [L_ref13_window_succ, R_ref13_window_eq]
    simp [dn hr, sumW]
  · intro n i d r hr hi ih s h0 hs
    rw [L_ref13_window_succ, R_ref13_window_eq]
    obtain ⟨h1, h3, hr', _⟩ := dc (enc := eDf) hr
    have hw := wrapN (n := i) (by omega)
    obtain ⟨hg, hp, hb⟩ := dfE_rng (hd d (List.mem_of_mem_drop (hr ▸ List.mem_cons_self : d ∈ l.drop i)))
    have hz := rdsize_run d hg
    have hk := rknot_run d
    have hm := rmeet_run d.za d.zb z0 z1
    have he := meet_lt d.za d.zb z0 z1
    generalize (if meetB d.za d.zb z0 z1 = true then if d.za < z0 then z0 else d.za else 0) = m1 at *
    generalize (if meetB d.za d.zb z0 z1 = true then if z1 < d.zb then z1 else d.zb else 0) = m2 at *
    have ws : IntKind.i64.wrap (s + sizeD d) = s + sizeD d := wrap64 (by omega) (by omega)
    unfold sumW
    simp at hz hk
    cases c1 : knotB d
    · have ih' := ih s (by omega) (by omega)
      simp at ih'
      rw [c1] at hk
      simp [h1, h3, hm, hk, hw, ih']
    · rw [c1] at hk
      cases c2 : meetB d.za d.zb z0 z1
      · have ih' := ih s (by omega) (by omega)
        simp at ih'
        rw [c2] at he
        simp at he
        have he' : ¬ m1 < m2 := by omega
        simp [h1, h3, hk, hm, he', hw, ih']
      · have ih' := ih (s + sizeD d) (by omega) (by omega)
        simp at ih'
        rw [c2] at he
        simp at he
        simp [h1, h3, hk, hm, he, hz, hw, ws, ih']
theorem rwindow_run (l : List Dfc) (hl : l.length ≤ 64) (hd : ∀ d ∈ l, dfE d = 0) (z0 z1 : Int) : F_ref13_window [.sl (l.map eDf), .agg [I z0, I z1]] = some (I (sumW z0 z1 0 l)) := by
  rw [F_ref13_window_eq]
  have ih := rsum_loop l hl hd z0 z1 bigL 0 l rfl (by have := bigL_ge; omega) 0 (by omega) (by omega)
  simp at ih
  simp [ih]
theorem rworst_loop (l : List Dfc) (hl : l.length ≤ 64) (hd : ∀ d ∈ l, dfE d = 0) : ∀ (n i : Nat) (r : List Dfc), l.drop i = r → r.length < n → ∀ w : Int,
    L_ref13_Worst 5 n ⟨[(0, .sl (l.map eDf)), (1, I 150), (4, .any), (5, I w), (6, I i), (7, .any)], []⟩ =
      some (.ex 0, ⟨[(0, .any), (1, .any), (4, .any), (5, I (wrsD l w r)), (6, .any), (7, .any)], []⟩) := by
  refine lind l _ ?_ ?_
  · intro n i hr w
    rw [L_ref13_Worst_succ, R_ref13_Worst_eq]
    simp [dn hr, wrsD]
  · intro n i d r hr hi ih w
    rw [L_ref13_Worst_succ, R_ref13_Worst_eq]
    obtain ⟨h1, h3, hr', _⟩ := dc (enc := eDf) hr
    have hw := wrapN (n := i) (by omega)
    obtain ⟨_, _, _, hz⟩ := dfE_zero (hd d (List.mem_of_mem_drop (hr ▸ List.mem_cons_self : d ∈ l.drop i)))
    have w1 : IntKind.i64.wrap (d.za - 150) = d.za - 150 := wrap64 (by omega) (by omega)
    have w2 : IntKind.i64.wrap (d.za - 150 + 1) = d.za - 149 := by rw [wrap64 (by omega) (by omega)]; omega
    have w3 : IntKind.i64.wrap (d.za - 149 + 150) = d.za + 1 := by rw [wrap64 (by omega) (by omega)]; omega
    have is := rwindow_run l hl hd (d.za - 149) (d.za + 1)
    have ih' := ih (if w < sumW (d.za - 149) (d.za + 1) 0 l then sumW (d.za - 149) (d.za + 1) 0 l else w)
    unfold wrsD
    simp at ih'
    simp [h1, h3, w1, w2, w3, is, hw, ih']
theorem rworst_run (l : List Dfc) : F_ref13_Worst [.sl (l.map eDf), I 150] = some (I (worstD l)) := by
  rw [F_ref13_Worst_eq]
  have hc := rcheckDf_run l
  unfold worstD
  by_cases h : checkDf l = 0
  · have ih := rworst_loop l (checkDf_len h) (checkDf_mem h) bigL 0 l rfl (by have := bigL_ge; have := checkDf_len h; omega) 0
    simp at ih
    simp [hc, h, ih]
  · simp [hc, h]
end Go.Proofs.YtjhlidaikegelaaGreat
