/-
  The reference's kiln, and the law's own helpers, run abstractly.
-/
import Derived.Test.YthgamgdcjgbmnaaDoorKlD
namespace Go.Proofs.YthgamgdcjgbmnaaDoor
set_option linter.unusedSimpArgs false
set_option linter.unusedVariables false
open Go Go.Abs
set_option maxHeartbeats 8000000
set_option maxRecDepth 100000
/-- The cells of a case. -/
def eCase (nm : ByteArray) (ramp : Int) (g : List Stg) (w : Spc) (l : List Itm) : List D := [S nm, I ramp, .sl (g.map eSg), S w.name, I w.green, I w.fast, I w.slow, I w.safe, I w.grad, I w.crack, I w.temp, I w.dep, I w.dens, I w.stiff, I w.loss, I w.shrink, .sl (l.map eT)]
@[simp] theorem eCase_eq (nm : ByteArray) (ramp : Int) (g : List Stg) (w : Spc) (l : List Itm) : eCase nm ramp g w l = [S nm, I ramp, .sl (g.map eSg), S w.name, I w.green, I w.fast, I w.slow, I w.safe, I w.grad, I w.crack, I w.temp, I w.dep, I w.dens, I w.stiff, I w.loss, I w.shrink, .sl (l.map eT)] := rfl
theorem begun_loop (nm : ByteArray) (ramp : Int) (g : List Stg) (w : Spc) (l : List Itm) (hl : l.length ≤ 1000000) : ∀ (n i : Nat) (r a : List Itm), l.drop i = r → r.length < n → a.length ≤ i →
    L_law38_begun 3 n ⟨[(0, .any), (1, .ptr 1 0), (2, .any), (3, .any), (4, .row 4), (5, I i)], [(1, .box 29 (eCase nm ramp g w l)), (4, .row 53 4 true (a.map eT))]⟩ =
      some (.ex 0, ⟨[(0, .any), (1, .ptr 1 0), (2, .any), (3, .any), (4, .row 4), (5, .any)], [(1, .box 29 (eCase nm ramp g w l)), (4, .row 53 4 true ((a ++ r).map eT))]⟩)
  | 0, _, _, _, _, hn, _ => by omega
  | n + 1, i, [], a, hr, hn, ha => by
    rw [L_law38_begun_succ, R_law38_begun_eq]
    simp [dn hr]
  | n + 1, i, x :: r, a, hr, hn, ha => by
    rw [L_law38_begun_succ, R_law38_begun_eq]
    obtain ⟨h1, h3, hr', hi⟩ := dc (enc := eT) hr
    have hw := wrapN (n := i) (by omega)
    have ih := begun_loop nm ramp g w l hl n (i + 1) r (a ++ [x]) hr' (by simp at hn; omega) (by simp; omega)
    have h2 : (a.length + 1) * 33 ≤ 140737488355328 := by omega
    simp at ih
    simp [h1, h3, hw, ih, h2]
theorem items_loop (l : List Itm) (hl : l.length ≤ 1000000) : ∀ (n i : Nat) (r a : List Itm), l.drop i = r → r.length < n → a.length ≤ i →
    L_law38_items 4 n ⟨[(0, .any), (2, .any), (3, .own true (l.map eT)), (4, .row 4), (5, I i)], [(4, .row 54 4 true (a.map eT))]⟩ =
      some (.ex 0, ⟨[(0, .any), (2, .any), (3, .any), (4, .row 4), (5, .any)], [(4, .row 54 4 true ((a ++ r).map eT))]⟩)
  | 0, _, _, _, _, hn, _ => by omega
  | n + 1, i, [], a, hr, hn, ha => by
    rw [L_law38_items_succ, R_law38_items_eq]
    simp [dn hr]
  | n + 1, i, x :: r, a, hr, hn, ha => by
    rw [L_law38_items_succ, R_law38_items_eq]
    obtain ⟨h1, h3, hr', hi⟩ := dc (enc := eT) hr
    have hw := wrapN (n := i) (by omega)
    have ih := items_loop l hl n (i + 1) r (a ++ [x]) hr' (by simp at hn; omega) (by simp; omega)
    have h2 : (a.length + 1) * 33 ≤ 140737488355328 := by omega
    simp at ih
    simp [h1, h3, hw, ih, h2]
theorem litems_run (k : Kl) (h : k.items.length ≤ 1000000) : F_law38_items [.elt (eK k)] = some (.own true (k.items.map eT)) := by
  rw [F_law38_items_eq]
  have h1 := items_run k h
  have ih := items_loop k.items h bigL 0 k.items [] rfl (by have := bigL_ge; omega) (by simp)
  simp at h1 ih
  simp [h1, ih]
theorem rnewK_loop (nm : ByteArray) (ramp : Int) (g : List Stg) (w : Spc) (l : List Itm) (hl : l.length ≤ 1000000) (z : List D) : ∀ (n i : Nat) (r : List Itm), l.drop i = r → r.length < n → z = [S ByteArray.empty, I 0, .emp, S ByteArray.empty, I 0, I 0, I 0, I 0, I 0, I 0, I 0, I 0, I 0, I 0, I 0, I 0, .emp, I 0, I 0, I 0, I 0, I 0, I 0] →
    L_ref38_New 12 n ⟨[(0, .any), (1, .any), (2, .sl (l.map eT)), (3, .ptr 3 0), (4, .ptr 4 0), (6, .ptr 6 0), (7, .any), (8, .any), (9, .any), (10, I i), (11, .any)], [(3, .box 24 [S nm, I ramp, .sl (g.map eSg)]), (4, .box 26 (eS w)), (6, .box 39 z)]⟩ =
      if checkT r = 0 then some (.ex 0, ⟨[(0, .any), (1, .any), (2, .sl (l.map eT)), (3, .ptr 3 0), (4, .ptr 4 0), (6, .ptr 6 0), (7, .any), (8, .any), (9, .any), (10, .any), (11, .any)], [(3, .box 24 [S nm, I ramp, .sl (g.map eSg)]), (4, .box 26 (eS w)), (6, .box 39 z)]⟩)
      else some (.ret, ⟨[(0, .any), (1, .any), (2, .any), (3, .any), (4, .any), (6, .ptr 6 0), (7, I (checkT r)), (8, .any), (9, .any), (10, .any), (11, .any)], [(6, .box 39 z)]⟩)
  | 0, _, _, _, hn, _ => by omega
  | n + 1, i, [], hr, hn, hz => by
    subst hz
    rw [L_ref38_New_succ, R_ref38_New_eq]
    simp [dn hr, checkT]
  | n + 1, i, x :: r, hr, hn, hz => by
    have ih := rnewK_loop nm ramp g w l hl z n (i + 1) r
    subst hz
    rw [L_ref38_New_succ, R_ref38_New_eq]
    obtain ⟨h1, h3, hr', hi⟩ := dc (enc := eT) hr
    have hw := wrapN (n := i) (by omega)
    have ih := ih hr' (by simp at hn; omega) rfl
    have hc := rcheckM_run x.cel
    simp at ih hc
    by_cases a1 : x.th < 1
    · have a1' : ¬ 1 ≤ x.th := by omega
      simp [h1, h3, hc, checkT, a1, a1']
    have a1' : 1 ≤ x.th := by omega
    by_cases a2 : 600 < x.th
    · simp [h1, h3, hc, checkT, a1, a1', a2]
    by_cases a3 : checkM x.cel = 0
    · simp [h1, h3, hc, checkT, a1, a1', a2, a3, hw, ih]
    · simp [h1, h3, hc, checkT, a1, a1', a2, a3]
theorem rnewGood_run (nm : ByteArray) (ramp : Int) (g : List Stg) (w : Spc) (l : List Itm) (hc : checkK nm ramp g w l = 0) : F_ref38_New [.agg [S nm, I ramp, .sl (g.map eSg)], .agg (eS w), .sl (l.map eT)] = some (.tup [.agg (cK (newK nm ramp g w l) (.sl (g.map eSg)) (.own true (l.map eT))), I 0]) := by
  have h1 := rschedule_run nm ramp g
  have h2 := rwood_run w
  simp at h2
  unfold checkK at hc
  rw [F_ref38_New_eq]
  by_cases a1 : checkSg nm ramp g = 0
  · by_cases a2 : checkW w = 0
    · by_cases a3 : l.length = 0
      · simp [a1, a2, a3] at hc
      · by_cases a4 : (1024 : Int) < l.length
        · simp [a1, a2, a3, a4] at hc
        · have ih := rnewK_loop nm ramp g w l (by omega) _ bigL 0 l rfl (by have := bigL_ge; omega) rfl
          have h : checkT l = 0 := by simpa [a1, a2, a3, a4] using hc
          have h5 : l.length * 33 ≤ 140737488355328 := by omega
          simp [h] at ih
          simp [h1, h2, a1, a2, a3, a4, ih, h, h5, routside_run, newK]
    · simp [a1, a2] at hc
  · simp [a1] at hc
theorem rnewBad_run (nm : ByteArray) (ramp : Int) (g : List Stg) (w : Spc) (l : List Itm) (hc : ¬ checkK nm ramp g w l = 0) : F_ref38_New [.agg [S nm, I ramp, .sl (g.map eSg)], .agg (eS w), .sl (l.map eT)] =
    some (.tup [.agg [S ByteArray.empty, I 0, .own true [], S ByteArray.empty, I 0, I 0, I 0, I 0, I 0, I 0, I 0, I 0, I 0, I 0, I 0, I 0, .own true [], I 0, I 0, I 0, I 0, I 0, I 0], I (checkK nm ramp g w l)]) := by
  have h1 := rschedule_run nm ramp g
  have h2 := rwood_run w
  simp at h2
  unfold checkK at hc ⊢
  rw [F_ref38_New_eq]
  by_cases a1 : checkSg nm ramp g = 0
  · by_cases a2 : checkW w = 0
    · by_cases a3 : l.length = 0
      · simp [h1, h2, a1, a2, a3]
      · by_cases a4 : (1024 : Int) < l.length
        · simp [h1, h2, a1, a2, a3, a4]
        · have ih := rnewK_loop nm ramp g w l (by omega) _ bigL 0 l rfl (by have := bigL_ge; omega) rfl
          have h : ¬ checkT l = 0 := by simpa [a1, a2, a3, a4] using hc
          simp [h] at ih
          simp [h1, h2, a1, a2, a3, a4, ih, h]
    · simp [h1, h2, a1, a2]
  · simp [h1, h2, a1]
theorem rdone_run (k : Kl) : F_ref38_Done [.agg (eK k)] = some (B (decide (k.stages.length ≤ k.stage))) := by
  rw [F_ref38_Done_eq]; simp
theorem rmean_loop (k : Kl) (hb : k.items.length ≤ 1000000) : ∀ (n i : Nat) (r : List Itm) (s : Int), k.items.drop i = r → r.length < n →
    L_ref38_Mean 5 n ⟨[(0, .any), (1, .ptr 1 0), (2, .any), (3, I s), (4, I i)], [(1, .box 39 (eK k))]⟩ =
      some (.ex 0, ⟨[(0, .any), (1, .ptr 1 0), (2, .any), (3, I (sumL s r)), (4, .any)], [(1, .box 39 (eK k))]⟩)
  | 0, _, _, _, _, hn => by omega
  | n + 1, i, [], s, hr, hn => by
    rw [L_ref38_Mean_succ, R_ref38_Mean_eq]
    simp [dn hr, sumL]
  | n + 1, i, x :: r, s, hr, hn => by
    rw [L_ref38_Mean_succ, R_ref38_Mean_eq]
    obtain ⟨h1, h3, hr', hi⟩ := dc (enc := eT) hr
    have hw := wrapN (n := i) (by omega)
    have ih := rmean_loop k hb n (i + 1) r (IntKind.i64.wrap (s + x.cel.c)) hr' (by simp at hn; omega)
    simp at ih
    simp [h1, h3, hw, ih, sumL]
theorem rmeanK_run (k : Kl) (hb : k.items.length ≤ 1000000) : F_ref38_Mean [.agg (eK k)] = some (I (meanL k.items)) := by
  rw [F_ref38_Mean_eq]
  unfold meanL
  have ih := rmean_loop k hb bigL 0 k.items 0 rfl (by have := bigL_ge; omega)
  simp at ih
  by_cases h : k.items.length = 0
  · simp [h]
  · simp [h, ih]
theorem same_loop (l : List Itm) (hl : l.length ≤ 1000000) : ∀ (n i : Nat) (r : List Itm), l.drop i = r → r.length < n →
    L_ref38_SameItems 4 n ⟨[(0, .sl (l.map eT)), (1, .sl (l.map eT)), (4, .any), (5, I i)], []⟩ = some (.ex 0, ⟨[(0, .any), (1, .any), (4, .any), (5, .any)], []⟩)
  | 0, _, _, _, hn => by omega
  | n + 1, i, [], hr, hn => by
    rw [L_ref38_SameItems_succ, R_ref38_SameItems_eq]
    simp [dn hr]
  | n + 1, i, x :: r, hr, hn => by
    rw [L_ref38_SameItems_succ, R_ref38_SameItems_eq]
    obtain ⟨h1, h3, hr', hi⟩ := dc (enc := eT) hr
    have hw := wrapN (n := i) (by omega)
    have ih := same_loop l hl n (i + 1) r hr' (by simp at hn; omega)
    simp at ih
    simp [h1, h3, hw, ih, eqD, eqFs]
theorem same_run (l : List Itm) (hl : l.length ≤ 1000000) : F_ref38_SameItems [.sl (l.map eT), .sl (l.map eT)] = some (B true) := by
  rw [F_ref38_SameItems_eq]
  have ih := same_loop l hl bigL 0 l rfl (by have := bigL_ge; omega)
  simp at ih
  simp [ih]
theorem is_run (k : Kl) (h0 : 0 < k.items.length) (h : k.items.length ≤ 1000000) (hs : k.stage ≤ k.stages.length) : F_law38_is [.elt (eK k), .agg (eK k)] = some (B true) := by
  rw [F_law38_is_eq]
  have h1 := ticksK_run k
  have h2 := done_run k
  have h3 := rdone_run k
  have h4 := climate_run k
  have h5 := stage_run k
  have h6 := meanK_run k h
  have h7 := rmeanK_run k h
  have h8 := litems_run k h
  have h9 := same_run k.items h
  have e : decide (k.stages.length ≤ k.stage) = decide ((k.stage : Int) = k.stages.length) := by
    by_cases g : k.stage = k.stages.length
    · simp [g]
    · have g2 : ¬ k.stages.length ≤ k.stage := by omega
      have g3 : ¬ (k.stage : Int) = k.stages.length := by omega
      rw [decide_eq_false g2, decide_eq_false g3]
  rw [e] at h3
  generalize decide ((k.stage : Int) = k.stages.length) = bb at h2 h3
  simp at h1 h2 h3 h4 h5 h6 h7 h8 h9
  simp [h1, h2, h3, h4, h5, h6, h7, h8, h9, eqD, eqFs]
def lightM (nm : ByteArray) (g : List Stg) (w : Spc) (l : List Itm) : Bool := (decide ((l.length : Int) ≤ 30) || (decide (1024 < (l.length : Int)) && decide ((l.length : Int) < 1100))) && (decide ((g.length : Int) ≤ 20) && (decide ((nm.size : Int) ≤ 100) && decide ((w.name.size : Int) ≤ 100)))
theorem light_run (nm : ByteArray) (ramp : Int) (g : List Stg) (w : Spc) (l : List Itm) : F_law38_light [.agg (eCase nm ramp g w l)] = some (B (lightM nm g w l)) := by
  rw [F_law38_light_eq]
  unfold lightM
  simp
  by_cases h : (30 : Int) < l.length
  · have h' : ¬ (l.length : Int) ≤ 30 := by omega
    simp [h, h', Bool.and_assoc]
  · have h' : (l.length : Int) ≤ 30 := by omega
    simp [h, h']
end Go.Proofs.YthgamgdcjgbmnaaDoor
