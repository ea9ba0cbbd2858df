/-
  Plain laws of the air's table: the equilibrium does not rise with the temperature or the depression. No program in sight.
-/
import Derived.Test.YtgngoijehjphoaaArA
namespace Go.Proofs.Ytgngoijehjphoaa
set_option linter.unusedSimpArgs false
set_option linter.unusedVariables false
open Go Go.Abs
set_option maxHeartbeats 2000000
set_option maxRecDepth 100000

theorem seg_num {p q a b x : Int} (h : p < q) : seg (p, a) (q, b) x = ((b - a) * (x - p) + a * (q - p)) / (q - p) := by
  unfold seg
  rw [Int.add_mul_ediv_right _ _ (by omega)]
  exact Int.add_comm _ _
theorem seg_le {p q a b a' b' x : Int} (h : p < q) (h1 : p ≤ x) (h2 : x ≤ q) (ha : a ≤ a') (hb : b ≤ b') : seg (p, a) (q, b) x ≤ seg (p, a') (q, b') x := by
  rw [seg_num h, seg_num h]
  refine Int.ediv_le_ediv (by omega) ?_
  have e : ∀ a b : Int, (b - a) * (x - p) + a * (q - p) = b * (x - p) + a * (q - x) := by
    intro a b
    have : a * (q - p) = a * (q - x) + a * (x - p) := by rw [← Int.mul_add]; congr 1; omega
    rw [this, Int.sub_mul]
    omega
  rw [e, e]
  have m1 := Int.mul_le_mul_of_nonneg_right hb (show 0 ≤ x - p by omega)
  have m2 := Int.mul_le_mul_of_nonneg_right ha (show 0 ≤ q - x by omega)
  omega
/-- Curves over the same numbers, the one nowhere above the other at them, are so everywhere. -/
theorem at_le {l a b : List Int} (hla : l.length = a.length) (hlb : l.length = b.length) (ga : Good (l.zip a)) (gb : Good (l.zip b)) (h : ∀ i, (hi : i < l.length) → a[i]'(by omega) ≤ b[i]'(by omega)) (x : Int) : at' (l.zip a) x ≤ at' (l.zip b) x := by
  have hpos : 0 < l.length := by have := ga.pos; simp at this; omega
  have hza : (l.zip a).length = l.length := by simp; omega
  have hzb : (l.zip b).length = l.length := by simp; omega
  rcases place ga x with h1 | ⟨i, hi, h1, h2⟩ | h1
  · have h1' : x ≤ ((l.zip b)[0]'(by omega)).1 := by simpa using h1
    rw [at_low ga ga.pos h1, at_low gb gb.pos h1']
    simpa using h 0 hpos
  · have h1' : ((l.zip b)[i]'(by omega)).1 < x := by simpa using h1
    have h2' : x ≤ ((l.zip b)[i + 1]'(by omega)).1 := by simpa using h2
    have hlt := ga.lt (i := i) (j := i + 1) (by omega) hi
    rw [at_seg ga hi h1 h2, at_seg gb (i := i) (by omega) h1' h2']
    simp only [List.getElem_zip] at *
    exact seg_le hlt (by omega) h2 (h i (by omega)) (h (i + 1) (by omega))
  · have h1' : ((l.zip b)[(l.zip b).length - 1]'(by omega)).1 < x := by
      simp only [List.getElem_zip, hza, hzb] at *
      exact h1
    rw [at_high ga (by omega), at_high gb (by omega)]
    simp only [List.getElem_zip, hza, hzb]
    exact h _ (by omega)
/-- Whether values never rise. -/
def fal (y : Int) : List (Int × Int) → Bool
  | [] => true
  | q :: r => if y < q.2 then false else fal q.2 r
def falling (l : List (Int × Int)) : Bool := match l with
  | [] => true
  | p :: r => fal p.2 r
theorem seg_anti {s t : Int × Int} {x z : Int} (h : s.1 < t.1) (hx : x ≤ z) (hm : t.2 ≤ s.2) : seg s t z ≤ seg s t x := by
  unfold seg
  have := Int.ediv_le_ediv (a := (t.2 - s.2) * (z - s.1)) (b := (t.2 - s.2) * (x - s.1)) (c := t.1 - s.1) (by omega) (by
    have := mul_le_l (s.2 - t.2) (a := x - s.1) (b := z - s.1) (by omega) (by omega)
    have e : ∀ y : Int, (t.2 - s.2) * y = -((s.2 - t.2) * y) := by intro y; rw [← Int.neg_mul]; congr 1; omega
    rw [e, e]
    omega)
  omega
theorem interp_anti {x z : Int} (hxz : x ≤ z) : ∀ (r : List (Int × Int)) (s : Int × Int), ((s :: r).map (·.1)).Pairwise (· < ·) → fal s.2 r = true → s.1 ≤ x → interp z s r ≤ interp x s r ∧ interp x s r ≤ s.2
  | [], s, _, _, _ => by simp [interp]
  | t :: r, s, hp, hr, hs => by
    have hst : s.1 < t.1 := by
      simp only [List.map_cons, List.pairwise_cons] at hp
      exact hp.1 _ (by simp)
    have hp' : ((t :: r).map (·.1)).Pairwise (· < ·) := by
      simp only [List.map_cons, List.pairwise_cons] at hp ⊢
      exact hp.2
    unfold fal at hr
    split at hr
    · cases hr
    · rename_i hle
      rw [interp, interp]
      by_cases h1 : x ≤ t.1
      · have hb := seg_down hst hs h1 (by omega)
        rw [if_pos h1]
        by_cases h2 : z ≤ t.1
        · rw [if_pos h2]
          exact ⟨seg_anti hst hxz (by omega), hb.2⟩
        · rw [if_neg h2]
          have := (interp_anti (x := z) (z := z) (Int.le_refl _) r t hp' hr (by omega)).2
          omega
      · rw [if_neg h1, if_neg (by omega)]
        have := interp_anti hxz r t hp' hr (by omega)
        omega
theorem at_anti {l : List (Int × Int)} (hg : Good l) (hr : falling l = true) {x z : Int} (hxz : x ≤ z) : at' l z ≤ at' l x := by
  have hpos := hg.pos
  have hc := (good_iff l).2 hg
  rw [at_eq x hc hpos, at_eq z hc hpos]
  cases l with
  | nil => simp at hpos
  | cons p r =>
    have hup := hg.up
    simp only [List.getElem_cons_zero, List.drop_one, List.tail_cons]
    have hr' : fal p.2 r = true := hr
    by_cases h1 : x ≤ p.1
    · rw [if_pos h1]
      by_cases h2 : z ≤ p.1
      · rw [if_pos h2]; omega
      · rw [if_neg h2]
        exact (interp_anti (x := z) (z := z) (Int.le_refl _) r p hup hr' (by omega)).2
    · rw [if_neg h1, if_neg (by omega)]
      exact (interp_anti hxz r p hup hr' (by omega)).1
theorem fal_of : ∀ (l : List (Int × Int)) (y : Int), (∀ i, (hi : i < l.length) → l[i].2 ≤ ((y :: l.map (·.2))[i]'(by simp; omega))) → fal y l = true
  | [], _, _ => rfl
  | q :: r, y, h => by
    have h0 := h 0 (by simp)
    simp at h0
    rw [fal, if_neg (by omega)]
    refine fal_of r q.2 (fun i hi => ?_)
    have := h (i + 1) (by simp; omega)
    simpa using this
theorem falling_of {l : List (Int × Int)} (h : ∀ i, (hi : i + 1 < l.length) → l[i + 1].2 ≤ (l[i]'(by omega)).2) : falling l = true := by
  cases l with
  | nil => rfl
  | cons p r =>
    refine fal_of r p.2 (fun i hi => ?_)
    have := h i (by simp; omega)
    cases i with
    | zero => simpa using this
    | succ j => simpa using this
theorem checkC_zero {t d : Int} : checkC t d = 0 ↔ 0 ≤ t ∧ t ≤ 1200 ∧ 0 ≤ d ∧ d ≤ 400 := by
  unfold checkC
  repeat' split
  all_goals simp <;> omega
theorem clampN_id {n hi : Int} (h1 : 0 ≤ n) (h2 : n ≤ hi) : clampN n 0 hi = n := by
  unfold clampN
  repeat' split
  all_goals omega
theorem tab_good : GoodG tab := (goodG_iff tab).1 rfl
/-- What a table must be for its values to fall along both axes. -/
structure Falls (g : G) : Prop where
  row : ∀ r ∈ g.vs, falling (g.ys.zip r) = true
  col : ∀ i, (hi : i + 1 < g.vs.length) → ∀ k, (hk : k < g.ys.length) → (g.vs[i + 1])[k]?.getD 0 ≤ (g.vs[i]'(by omega))[k]?.getD 0
theorem value_anti {g : G} (hg : GoodG g) (hf : Falls g) {x x' y y' : Int} (hx : x ≤ x') (hy : y ≤ y') : value g x' y' ≤ value g x y := by
  have hlv := hg.lv
  rw [value, value, if_pos ((goodG_iff g).2 hg), if_pos ((goodG_iff g).2 hg)]
  have h1 : at' (g.xs.zip (g.vs.map (rowAt g y'))) x' ≤ at' (g.xs.zip (g.vs.map (rowAt g y))) x' := by
    refine at_le (by simp [hlv]) (by simp [hlv]) (hg.good y') (hg.good y) (fun i hi => ?_) x'
    simp only [List.getElem_map]
    exact at_anti (hg.rowGood (List.getElem_mem _)) (hf.row _ (List.getElem_mem _)) hy
  have h2 : at' (g.xs.zip (g.vs.map (rowAt g y))) x' ≤ at' (g.xs.zip (g.vs.map (rowAt g y))) x := by
    refine at_anti (hg.good y) (falling_of (fun i hi => ?_)) hx
    simp only [List.getElem_zip, List.getElem_map]
    have hi' : i + 1 < g.vs.length := by simp at hi; omega
    have r1 := hg.row _ (List.getElem_mem hi')
    have r2 := hg.row _ (List.getElem_mem (l := g.vs) (n := i) (by omega))
    refine at_le (by omega) (by omega) (hg.rowGood (List.getElem_mem _)) (hg.rowGood (List.getElem_mem _)) (fun k hk => ?_) y
    have := hf.col i hi' k hk
    rw [List.getElem?_eq_getElem (by omega), List.getElem?_eq_getElem (by omega)] at this
    exact this
  omega
theorem tab_falls : Falls tab := by
  refine ⟨?_, ?_⟩
  · intro r hr
    simp [tab] at hr
    rcases hr with rfl | rfl | rfl | rfl | rfl | rfl <;> rfl
  · intro i hi k hk
    have h : ∀ i, i < 5 → ∀ k, k < 7 → ((tab.vs[i + 1]?.getD [])[k]?.getD 0) ≤ ((tab.vs[i]?.getD [])[k]?.getD 0) := by decide
    have := h i (by simp [tab] at hi; omega) k (by simp [tab] at hk; omega)
    rw [List.getElem?_eq_getElem hi, List.getElem?_eq_getElem (show i < tab.vs.length by omega)] at this
    exact this
/-- The equilibrium does not rise with the temperature or the depression. -/
theorem emc_anti {t t' d d' : Int} (ht : t ≤ t') (hd : d ≤ d') : emc t' d' ≤ emc t d := value_anti tab_good tab_falls ht hd
theorem emc_range (t d : Int) : 220 ≤ emc t d ∧ emc t d ≤ 2800 := by
  refine value_range tab_good ?_ t d
  intro r hr n hn
  have h : ∀ r ∈ tab.vs, ∀ n ∈ r, 220 ≤ n ∧ n ≤ 2800 := by decide
  exact h r hr n hn
end Go.Proofs.Ytgngoijehjphoaa
