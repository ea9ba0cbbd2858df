/-
  The plain laws of features: counts, order.
-/
import Derived.Test.YtjhlidaikegelaaGreatFtU
namespace Go.Proofs.YtjhlidaikegelaaGreat
set_option linter.unusedSimpArgs false
set_option linter.unusedVariables false
open Go Go.Abs
set_option maxHeartbeats 4000000
set_option maxRecDepth 100000
/-! ### The order of the defects -/
theorem insE_iff (x y z : Int) : ∀ l : List Dfc, insE x y z l = true ↔ ∀ d ∈ l, insideB d.xa d.xb x = true ∧ insideB d.ya d.yb y = true ∧ insideB d.za d.zb z = true
  | [] => by simp [insE]
  | d :: r => by
    unfold insE
    have ih := insE_iff x y z r
    by_cases h1 : insideB d.xa d.xb x = true
    · by_cases h2 : insideB d.ya d.yb y = true
      · by_cases h3 : insideB d.za d.zb z = true
        · simp [h1, h2, h3, ih]
        · simp [h1, h2, h3]
      · simp [h1, h2]
    · simp [h1]
theorem dfsE_iff : ∀ l : List Dfc, dfsE l = 0 ↔ ∀ d ∈ l, dfE d = 0
  | [] => by simp [dfsE]
  | d :: r => by
    unfold dfsE
    have ih := dfsE_iff r
    by_cases h1 : dfE d = 0
    · simp [h1, ih]
    · simp [h1]
theorem checkDf_iff (l : List Dfc) : checkDf l = 0 ↔ l.length ≤ 64 ∧ ∀ d ∈ l, dfE d = 0 := by
  unfold checkDf
  split
  · constructor
    · intro h
      omega
    · intro h
      omega
  · rw [dfsE_iff]
    constructor
    · intro h
      exact ⟨by omega, h⟩
    · intro h
      exact h.2
theorem restE_iff (b : Bd) (p : Pd) : restE b p = 0 ↔ boxB b = true ∧ fitB b p = true ∧ inI (b.zb - b.za) p.lens = true ∧ checkDf b.dfs = 0 ∧ insE (b.xb - b.xa) (b.yb - b.ya) (b.zb - b.za) b.dfs = true ∧
    ¬ b.vol < 0 ∧ ¬ volB b < b.vol ∧ ¬ b.wane < 0 ∧ ¬ 1000 < b.wane ∧ checkM b.cel = 0 ∧ ¬ b.grade < 0 ∧ ¬ 9 < b.grade := by
  unfold restE
  by_cases h1 : boxB b = true
  case neg => simp [h1]
  by_cases h2 : fitB b p = true
  case neg => simp [h1, h2]
  by_cases h3 : inI (b.zb - b.za) p.lens = true
  case neg => simp [h1, h2, h3]
  by_cases h4 : checkDf b.dfs = 0
  case neg => simp [h1, h2, h3, h4]
  by_cases h5 : insE (b.xb - b.xa) (b.yb - b.ya) (b.zb - b.za) b.dfs = true
  case neg => simp [h1, h2, h3, h4, h5]
  by_cases h6 : b.vol < 0
  · simp [h1, h2, h3, h4, h5, h6]
  by_cases h7 : volB b < b.vol
  · simp [h1, h2, h3, h4, h5, h6, h7]
  by_cases h8 : b.wane < 0
  · simp [h1, h2, h3, h4, h5, h6, h7, h8]
  by_cases h9 : 1000 < b.wane
  · simp [h1, h2, h3, h4, h5, h6, h7, h8, h9]
  by_cases h10 : checkM b.cel = 0
  case neg => simp [h1, h2, h3, h4, h5, h6, h7, h8, h9, h10]
  by_cases h11 : b.grade < 0
  · simp [h1, h2, h3, h4, h5, h6, h7, h8, h9, h10, h11]
  by_cases h12 : 9 < b.grade
  · simp [h1, h2, h3, h4, h5, h6, h7, h8, h9, h10, h11, h12]
  · simp [h1, h2, h3, h4, h5, h6, h7, h8, h9, h10, h11, h12]
/-- A board with other defects. -/
def withD (b : Bd) (l : List Dfc) : Bd := ⟨b.id, b.log, b.sp, b.prod, b.xa, b.xb, b.ya, b.yb, b.za, b.zb, b.vol, l, b.wane, b.cel, b.dried, b.grade⟩
theorem checkDf_perm {l m : List Dfc} (h : l.Perm m) : checkDf l = 0 ↔ checkDf m = 0 := by
  rw [checkDf_iff, checkDf_iff, h.length_eq]
  constructor
  · exact fun ⟨h1, h2⟩ => ⟨h1, fun d hd => h2 d (h.mem_iff.2 hd)⟩
  · exact fun ⟨h1, h2⟩ => ⟨h1, fun d hd => h2 d (h.mem_iff.1 hd)⟩
theorem insE_perm {l m : List Dfc} (h : l.Perm m) (x y z : Int) : insE x y z l = true ↔ insE x y z m = true := by
  rw [insE_iff, insE_iff]
  exact ⟨fun h2 d hd => h2 d (h.mem_iff.2 hd), fun h2 d hd => h2 d (h.mem_iff.1 hd)⟩
theorem cntD_perm {l m : List Dfc} (h : l.Perm m) (k : Int) : ∀ n, cntD k n l = cntD k n m := by
  induction h with
  | nil => intro n; rfl
  | cons x _ ih => intro n; unfold cntD; rw [ih, ih]
  | swap x y l =>
    intro n
    unfold cntD cntD
    repeat' split
    all_goals rfl
  | trans _ _ ih1 ih2 => intro n; rw [ih1, ih2]
theorem lrgD_perm {l m : List Dfc} (h : l.Perm m) (k : Int) : ∀ n, lrgD k n l = lrgD k n m := by
  induction h with
  | nil => intro n; rfl
  | cons x _ ih => intro n; unfold lrgD; rw [ih, ih]
  | swap x y l =>
    intro n
    unfold lrgD lrgD
    have e : (if (if n < sizeD y then sizeD y else n) < sizeD x then sizeD x else (if n < sizeD y then sizeD y else n)) = (if (if n < sizeD x then sizeD x else n) < sizeD y then sizeD y else (if n < sizeD x then sizeD x else n)) := by
      repeat' split
      all_goals omega
    by_cases h1 : x.kind = k <;> by_cases h2 : y.kind = k <;> simp [h1, h2, e]
  | trans _ _ ih1 ih2 => intro n; rw [ih1, ih2]
theorem sumW_perm {l m : List Dfc} (h : l.Perm m) (z0 z1 : Int) : ∀ s, sumW z0 z1 s l = sumW z0 z1 s m := by
  induction h with
  | nil => intro n; rfl
  | cons x _ ih => intro n; unfold sumW; rw [ih, ih]
  | swap x y l =>
    intro n
    unfold sumW sumW
    have e : n + sizeD y + sizeD x = n + sizeD x + sizeD y := by omega
    by_cases h1 : (knotB x && meetB x.za x.zb z0 z1) = true <;> by_cases h2 : (knotB y && meetB y.za y.zb z0 z1) = true <;> simp [h1, h2, e]
  | trans _ _ ih1 ih2 => intro n; rw [ih1, ih2]
theorem wrsD_all {l m : List Dfc} (h : l.Perm m) : ∀ (r : List Dfc) (w : Int), wrsD l w r = wrsD m w r
  | [], w => rfl
  | d :: r, w => by
    unfold wrsD
    rw [sumW_perm h, wrsD_all h r]
theorem wrsD_perm (all : List Dfc) {l m : List Dfc} (h : l.Perm m) : ∀ w, wrsD all w l = wrsD all w m := by
  induction h with
  | nil => intro n; rfl
  | cons x _ ih => intro n; unfold wrsD; rw [ih]
  | swap x y l =>
    intro n
    unfold wrsD wrsD
    congr 1
    generalize sumW (x.za - 149) (x.za + 1) 0 all = a
    generalize sumW (y.za - 149) (y.za + 1) 0 all = b
    repeat' split
    all_goals omega
  | trans _ _ ih1 ih2 => intro n; rw [ih1, ih2]
theorem worstD_perm {l m : List Dfc} (h : l.Perm m) : worstD l = worstD m := by
  unfold worstD
  by_cases c : checkDf l = 0
  · rw [if_pos c, if_pos ((checkDf_perm h).1 c), wrsD_all h, wrsD_perm m h]
  · rw [if_neg c, if_neg (fun c' => c ((checkDf_perm h).2 c'))]
theorem featsO_perm (b : Bd) (l : List Dfc) (h : l.Perm b.dfs) (c : List Pd) (w : Spc) : featsO (withD b l) c w = featsO b c w := by
  have hr : ∀ p, restE (withD b l) p = 0 ↔ restE b p = 0 := by
    intro p
    rw [restE_iff, restE_iff]
    have e1 := checkDf_perm h
    have e2 := insE_perm h (b.xb - b.xa) (b.yb - b.ya) (b.zb - b.za)
    have e3 : volB (withD b l) = volB b := rfl
    have e4 : boxB (withD b l) = boxB b := rfl
    have e5 : fitB (withD b l) p = fitB b p := rfl
    rw [e3, e4, e5]
    show _ ∧ _ ∧ _ ∧ checkDf l = 0 ∧ insE (b.xb - b.xa) (b.yb - b.ya) (b.zb - b.za) l = true ∧ _ ↔ _
    rw [e1, e2]
    rfl
  have hc : checkB (withD b l) c = 0 ↔ checkB b c = 0 := by
    unfold checkB
    have e1 : (isC (withD b l).id 66 && (isC (withD b l).log 76 && isNm (withD b l).sp)) = (isC b.id 66 && (isC b.log 76 && isNm b.sp)) := rfl
    have e2 : (withD b l).prod = b.prod := rfl
    rw [e1, e2]
    split
    · split
      · split
        · rfl
        · cases hp : c[b.prod.toNat]? with
          | none => rfl
          | some p => exact hr p
      · rfl
    · rfl
  have hf : ∀ p, feats (withD b l) p w = feats b p w := by
    intro p
    unfold feats
    have e1 : worstD (withD b l).dfs = worstD b.dfs := worstD_perm h
    have e2 : ∀ k, cntD k 0 (withD b l).dfs = cntD k 0 b.dfs := fun k => cntD_perm h k 0
    have e3 : ∀ k, lrgD k 0 (withD b l).dfs = lrgD k 0 b.dfs := fun k => lrgD_perm h k 0
    have e4 : underB (withD b l) p w = underB b p w := rfl
    have e5 : stiffN (withD b l) w = stiffN b w := by
      unfold stiffN knotsN
      rw [e1]
      rfl
    simp only [e1, e2, e3, e4, e5]
    rfl
  unfold featsO
  have e2 : (withD b l).prod = b.prod := rfl
  by_cases hh : checkB b c = 0 ∧ checkW w = 0
  · rw [if_pos hh, if_pos ⟨hc.2 hh.1, hh.2⟩, e2]
    cases c[b.prod.toNat]? with
    | none => rfl
    | some p => exact hf p
  · rw [if_neg hh, if_neg (fun h' => hh ⟨hc.1 h'.1, h'.2⟩)]
end Go.Proofs.YtjhlidaikegelaaGreat
