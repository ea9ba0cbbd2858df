/-
  The plain laws of features: sums of counts, the worst window, the names.
-/
import Derived.Test.YtjhlidaikegelaaGreatFtW
namespace Go.Proofs.YtjhlidaikegelaaGreat
set_option linter.unusedSimpArgs false
set_option linter.unusedVariables false
open Go Go.Abs
set_option maxHeartbeats 4000000
set_option maxRecDepth 100000
theorem cntD_add (k : Int) : ∀ (l : List Dfc) (n : Int), cntD k n l = n + cntD k 0 l
  | [], n => by simp [cntD]
  | d :: r, n => by
    unfold cntD
    rw [cntD_add k r (n + 1), cntD_add k r n, cntD_add k r (0 + 1)]
    split <;> omega
theorem cnt_sum : ∀ (l : List Dfc), (∀ d ∈ l, 1 ≤ d.kind ∧ d.kind ≤ 6) → cntD 1 0 l + cntD 2 0 l + cntD 3 0 l + cntD 4 0 l + cntD 5 0 l + cntD 6 0 l = l.length
  | [], _ => by simp [cntD]
  | d :: r, h => by
    have ih := cnt_sum r (fun x hx => h x (List.mem_cons_of_mem _ hx))
    obtain ⟨h1, h2⟩ := h d List.mem_cons_self
    have e : ∀ k, cntD k 0 (d :: r) = (if d.kind = k then 1 else 0) + cntD k 0 r := by
      intro k
      rw [show cntD k 0 (d :: r) = if d.kind = k then cntD k (0 + 1) r else cntD k 0 r from rfl, cntD_add k r (0 + 1)]
      split <;> omega
    rw [e, e, e, e, e, e, List.length_cons]
    rcases (by omega : d.kind = 1 ∨ d.kind = 2 ∨ d.kind = 3 ∨ d.kind = 4 ∨ d.kind = 5 ∨ d.kind = 6) with c | c | c | c | c | c <;> (rw [c]; simp; omega)
theorem cntD_bnd (k : Int) : ∀ (l : List Dfc), 0 ≤ cntD k 0 l ∧ cntD k 0 l ≤ l.length
  | [] => by simp [cntD]
  | d :: r => by
    have ih := cntD_bnd k r
    rw [show cntD k 0 (d :: r) = if d.kind = k then cntD k (0 + 1) r else cntD k 0 r from rfl, cntD_add k r (0 + 1), List.length_cons]
    split <;> omega
/-- The sum of the sizes of all knots. -/
def sumK (s : Int) : List Dfc → Int
  | [] => s
  | d :: r => if knotB d = true then sumK (s + sizeD d) r else sumK s r
theorem sumK_mono : ∀ (l : List Dfc) (s t : Int), s ≤ t → sumK s l ≤ sumK t l
  | [], s, t, h => h
  | d :: r, s, t, h => by
    unfold sumK
    split
    · exact sumK_mono r _ _ (by omega)
    · exact sumK_mono r _ _ h
theorem sumK_ge : ∀ (l : List Dfc) (s : Int), (∀ d ∈ l, dfE d = 0) → s ≤ sumK s l
  | [], s, _ => Int.le_refl _
  | d :: r, s, h => by
    obtain ⟨_, hp, _⟩ := dfE_rng (h d List.mem_cons_self)
    have hr : ∀ x ∈ r, dfE x = 0 := fun x hx => h x (List.mem_cons_of_mem _ hx)
    have h1 := sumK_ge r s hr
    have h2 := sumK_ge r (s + sizeD d) hr
    unfold sumK
    split <;> omega
theorem sumK_bnd : ∀ (l : List Dfc) (s : Int), (∀ d ∈ l, dfE d = 0) → sumK s l ≤ s + 1200 * l.length
  | [], s, _ => by simp [sumK]
  | d :: r, s, h => by
    obtain ⟨_, hp, hb⟩ := dfE_rng (h d List.mem_cons_self)
    have hr : ∀ x ∈ r, dfE x = 0 := fun x hx => h x (List.mem_cons_of_mem _ hx)
    have h1 := sumK_bnd r s hr
    have h2 := sumK_bnd r (s + sizeD d) hr
    unfold sumK
    rw [List.length_cons]
    split <;> omega
theorem sumW_le (z0 z1 : Int) : ∀ (l : List Dfc) (s : Int), (∀ d ∈ l, dfE d = 0) → sumW z0 z1 s l ≤ sumK s l
  | [], s, _ => Int.le_refl _
  | d :: r, s, h => by
    obtain ⟨_, hp, _⟩ := dfE_rng (h d List.mem_cons_self)
    have hr : ∀ x ∈ r, dfE x = 0 := fun x hx => h x (List.mem_cons_of_mem _ hx)
    unfold sumW sumK
    cases hk : knotB d
    · simpa using sumW_le z0 z1 r s hr
    · cases hm : meetB d.za d.zb z0 z1
      · simp
        have h1 := sumW_le z0 z1 r s hr
        have h2 := sumK_mono r s (s + sizeD d) (by omega)
        omega
      · simpa using sumW_le z0 z1 r (s + sizeD d) hr
theorem sumW_base (z0 z1 : Int) : ∀ (l : List Dfc) (s : Int), (∀ d ∈ l, dfE d = 0) → s ≤ sumW z0 z1 s l
  | [], s, _ => Int.le_refl _
  | d :: r, s, h => by
    obtain ⟨_, hp, _⟩ := dfE_rng (h d List.mem_cons_self)
    have hr : ∀ x ∈ r, dfE x = 0 := fun x hx => h x (List.mem_cons_of_mem _ hx)
    have h1 := sumW_base z0 z1 r s hr
    have h2 := sumW_base z0 z1 r (s + sizeD d) hr
    unfold sumW
    split <;> omega
theorem sumW_shift (z0 z1 : Int) : ∀ (l : List Dfc) (s : Int), sumW z0 z1 s l = s + sumW z0 z1 0 l
  | [], s => by simp [sumW]
  | d :: r, s => by
    unfold sumW
    rw [sumW_shift z0 z1 r (s + sizeD d), sumW_shift z0 z1 r s, sumW_shift z0 z1 r (0 + sizeD d)]
    split <;> omega
theorem sumW_mem (z0 z1 : Int) : ∀ (l : List Dfc), (∀ d ∈ l, dfE d = 0) → ∀ d ∈ l, knotB d = true → meetB d.za d.zb z0 z1 = true → sizeD d ≤ sumW z0 z1 0 l
  | [], _, d, hd, _, _ => by cases hd
  | x :: r, h, d, hd, hk, hm => by
    have hr : ∀ x ∈ r, dfE x = 0 := fun y hy => h y (List.mem_cons_of_mem _ hy)
    obtain ⟨_, hp, _⟩ := dfE_rng (h x List.mem_cons_self)
    have hb := sumW_base z0 z1 r 0 hr
    rcases List.mem_cons.1 hd with rfl | hd
    · unfold sumW
      rw [hk, hm]
      simp only [Bool.and_self, if_true]
      rw [sumW_shift]
      omega
    · have ih := sumW_mem z0 z1 r hr d hd hk hm
      unfold sumW
      rw [sumW_shift z0 z1 r (0 + sizeD x)]
      split <;> omega
theorem wrsD_ge (all : List Dfc) : ∀ (r : List Dfc) (w : Int), w ≤ wrsD all w r ∧ ∀ d ∈ r, sumW (d.za - 149) (d.za + 1) 0 all ≤ wrsD all w r
  | [], w => ⟨Int.le_refl _, fun d hd => by cases hd⟩
  | x :: r, w => by
    unfold wrsD
    generalize hs : sumW (x.za - 149) (x.za + 1) 0 all = s
    obtain ⟨h1, h2⟩ := wrsD_ge all r (if w < s then s else w)
    have h3 : w ≤ (if w < s then s else w) ∧ s ≤ (if w < s then s else w) := by split <;> omega
    generalize (if w < s then s else w) = t at *
    refine ⟨by omega, fun d hd => ?_⟩
    rcases List.mem_cons.1 hd with rfl | hd
    · rw [hs]
      omega
    · exact h2 d hd
theorem wrsD_le (all : List Dfc) (M : Int) (hM : ∀ z0 z1, sumW z0 z1 0 all ≤ M) : ∀ (r : List Dfc) (w : Int), w ≤ M → wrsD all w r ≤ M
  | [], w, h => h
  | d :: r, w, h => by
    unfold wrsD
    apply wrsD_le all M hM r
    have := hM (d.za - 149) (d.za + 1)
    split <;> omega
theorem lrgD_le (k M : Int) : ∀ (l : List Dfc) (n : Int), n ≤ M → (∀ d ∈ l, d.kind = k → sizeD d ≤ M) → lrgD k n l ≤ M
  | [], n, h, _ => h
  | d :: r, n, h, hm => by
    have hr : ∀ x ∈ r, x.kind = k → sizeD x ≤ M := fun y hy => hm y (List.mem_cons_of_mem _ hy)
    have h1 := hm d List.mem_cons_self
    unfold lrgD
    split
    · rename_i c
      have := h1 c
      exact lrgD_le k M r _ (by split <;> omega) hr
    · exact lrgD_le k M r _ h hr
theorem worst_ge (l : List Dfc) (h : checkDf l = 0) (k : Int) (hk : k = 1 ∨ k = 2) : lrgD k 0 l ≤ worstD l := by
  have hm := checkDf_mem h
  unfold worstD
  rw [if_pos h]
  obtain ⟨h1, h2⟩ := wrsD_ge l l 0
  refine lrgD_le k _ l 0 h1 (fun d hd hk' => ?_)
  have h3 := h2 d hd
  obtain ⟨_, _, _, hz⟩ := dfE_zero (hm d hd)
  have h4 := sumW_mem (d.za - 149) (d.za + 1) l hm d hd (by unfold knotB; rcases hk with rfl | rfl <;> simp [hk']) (by
    unfold meetB
    have a1 : d.za - 149 < d.za := by omega
    have a2 : ¬ d.za < d.za - 149 := by omega
    rw [if_neg a2]
    simp only [decide_eq_true_eq]
    split <;> omega)
  omega
theorem worst_le (l : List Dfc) (h : checkDf l = 0) : worstD l ≤ sumK 0 l := by
  have hm := checkDf_mem h
  unfold worstD
  rw [if_pos h]
  exact wrsD_le l _ (fun z0 z1 => sumW_le z0 z1 l 0 hm) l 0 (sumK_ge l 0 hm)
theorem lrgD_bnd (k : Int) : ∀ (l : List Dfc) (n : Int), n ≤ lrgD k n l
  | [], n => Int.le_refl _
  | d :: r, n => by
    have h1 := lrgD_bnd k r n
    have h2 := lrgD_bnd k r (if n < sizeD d then sizeD d else n)
    unfold lrgD
    have h3 : n ≤ (if n < sizeD d then sizeD d else n) := by split <;> omega
    generalize (if n < sizeD d then sizeD d else n) = t at *
    split <;> omega
end Go.Proofs.YtjhlidaikegelaaGreat
