/-
  KilnCounts, run abstractly.
-/
import Derived.Test.YthgamgdcjgbmnaaDoorKlU
namespace Go.Proofs.YthgamgdcjgbmnaaDoor
set_option linter.unusedSimpArgs false
set_option linter.unusedVariables false
open Go Go.Abs
set_option maxHeartbeats 16000000
set_option maxRecDepth 100000
theorem counts_out (fs : List (List Int)) (hf : few10 fs = true) (hfl : fs.length ≤ 60) (nm : ByteArray) (ramp : Int) (g : List Stg) (w : Spc) (l : List Itm) : ∀ (n i : Nat) (r : List (List Int)) (k : Kl) (p q : Bool), fs.drop i = r → r.length < n → InvK k → k.stages = g → (0 ≤ k.held ∧ k.held ≤ k.ticks ∧ k.ticks ≤ i) →
    ∃ t h, L_law38_KilnCounts 7 n ⟨[(0, .any), (1, .sl (fs.map eF)), (2, .ptr 2 0), (4, .any), (5, .ptr 28 0), (6, .any), (7, I i), (8, .any), (9, .any), (10, .any), (11, .any), (12, .any), (13, .any), (14, .any), (15, .any), (16, .any)], [(2, .box 29 (eCase nm ramp g w l)), (28, .box 74 (cK k (slQ p (k.stages.map eSg)) (slQ q (k.items.map eT))))]⟩ =
      some (.ex 0, ⟨t, h⟩) ∧ t = [(0, .any), (1, .any), (2, .any), (4, .any), (5, .any), (6, .any), (7, .any), (8, .any), (9, .any), (10, .any), (11, .any), (12, .any), (13, .any), (14, .any), (15, .any), (16, .any)] ∧ h = []
  | 0, _, _, _, _, _, _, hn, _, _, _ => by omega
  | n + 1, i, [], k, p, q, hr, hn, iv, hg, hc => by
    rw [L_law38_KilnCounts_succ, R_law38_KilnCounts_eq]
    cases p <;> cases q <;> simp [dn hr]
  | n + 1, i, x :: r, k, p, q, hr, hn, iv, hg, hc => by
    obtain ⟨h1, h3, hr', hi⟩ := dc (enc := eF) hr
    have hw := wrapN (n := i) (by omega)
    have hx : x.length ≤ 10 := few10_mem hf x (by have := List.mem_of_mem_drop (hr ▸ List.mem_cons_self : x ∈ fs.drop i); exact this)
    have iv2 := inv_step iv x
    have hs : (stepK k x).stages = k.stages := stepK_stages k x
    have a1 := ticksK_run k
    have a2 := stage_run k
    have a3 := done_run k
    have a4 := climate_run k
    have a5 := litems_run k (by have := iv.many; omega)
    have sm := same_run k.items (by have := iv.many; omega)
    have st := iv.stage
    have st12 := iv.stages
    by_cases hd : k.stage = k.stages.length
    · have t := tickDone_run k x (by omega)
      obtain ⟨tt, hh, ih, e1, e2⟩ := counts_out fs hf hfl nm ramp g w l n (i + 1) r k false false hr' (by simp at hn; omega) iv hg (by omega)
      subst e1 e2
      refine ⟨_, _, ?_, rfl, rfl⟩
      rw [L_law38_KilnCounts_succ, R_law38_KilnCounts_eq]
      rw [decide_eq_true (by omega)] at a3
      simp at t a1 a2 a3 a4 a5 sm ih
      cases p <;> cases q <;> simp (config := { maxSteps := 2000000 }) [h1, h3, t, a1, a2, a3, a4, a5, sm, hw, ih, eqD, eqFs]
    · have t := tick'_run k x (by omega) (by omega) (by omega) iv.some (by have := iv.many; omega)
      have e0 : stepK k x = tickK k x := by simp [stepK, hd]
      rw [e0] at iv2 hs
      have w1 : IntKind.i64.wrap (k.ticks + 1) = k.ticks + 1 := wrap64 (by omega) (by omega)
      have w2 : IntKind.i64.wrap (k.held + 1) = k.held + 1 := wrap64 (by omega) (by omega)
      have w3 := wrapN (n := k.stage) (by omega)
      have f1 : (tickK k x).ticks = k.ticks + 1 := w1
      have f2 : (tickK k x).held = k.held ∨ (tickK k x).held = k.held + 1 := by
        show (if _ then _ else _) = _ ∨ (if _ then _ else _) = _
        split
        · right; exact w2
        · left; rfl
      have f3 : (tickK k x).stage = k.stage ∨ (tickK k x).stage = k.stage + 1 := by
        unfold tickK tickC
        dsimp only
        split
        · right; rfl
        · left; rfl
      obtain ⟨tt, hh, ih, e1, e2⟩ := counts_out fs hf hfl nm ramp g w l n (i + 1) r (tickK k x) false true hr' (by simp at hn; omega) iv2 (by rw [hs]; exact hg) (by omega)
      subst e1 e2
      refine ⟨_, _, ?_, rfl, rfl⟩
      rw [L_law38_KilnCounts_succ, R_law38_KilnCounts_eq]
      have b1 := ticksK_run (tickK k x)
      have b2 := stage_run (tickK k x)
      have b3 := done_run (tickK k x)
      have b4 := climate_run (tickK k x)
      rw [decide_eq_false (by omega)] at a3
      have m1 : ¬ (tickK k x).held < k.held := by omega
      have m2 : ¬ k.held + 1 < (tickK k x).held := by omega
      have m3 : ¬ k.ticks + 1 < (tickK k x).held := by omega
      have m4 : ¬ (tickK k x).stage < k.stage := by omega
      have m5 : ¬ (k.stage : Int) + 1 < (tickK k x).stage := by omega
      have hgl : k.stages.length = g.length := by rw [hg]
      have hdk : doneK (tickK k x) = decide (((tickK k x).stage : Int) = k.stages.length) := by unfold doneK; rw [hs]
      rw [hs] at ih b3
      rw [hdk] at t
      simp only [eK_eq, hs] at b1 b2 b3 b4
      generalize hdd : decide (((tickK k x).stage : Int) = k.stages.length) = dd at t b3
      rw [hgl] at hdd
      clear f2 f3 hdk iv2 hs e0
      generalize tickK k x = k' at *
      simp [f1] at t a1 a2 a3 a4 a5 b1 b2 b3 b4 ih
      cases dd
      · have hne : ¬ (k'.stage : Int) = g.length := by simpa using hdd
        cases p <;> cases q <;> simp (config := { maxSteps := 2000000 }) [h1, h3, t, a1, a2, a3, a4, a5, b1, b2, b3, b4, m1, m2, m3, m4, m5, w1, w2, w3, hw, ih, hne, f1]
      · have heq : (k'.stage : Int) = g.length := by simpa using hdd
        cases p <;> cases q <;> simp (config := { maxSteps := 2000000 }) [h1, h3, t, a1, a2, a3, a4, a5, b1, b2, b3, b4, m1, m2, m3, m4, m5, w1, w2, w3, hw, ih, f1] <;> simp [heq]
theorem counts_law (nm : ByteArray) (ramp : Int) (g : List Stg) (w : Spc) (l : List Itm) (fs : List (List Int)) (hfs : fs.length ≤ 9223372036854775807) : F_law38_KilnCounts [.agg (eCase nm ramp g w l), .sl (fs.map eF)] = some (B true) := by
  rw [F_law38_KilnCounts_eq]
  have hl := light_run nm ramp g w l
  have hf := few_run fs hfs
  simp at hl
  cases hL : lightM nm g w l
  · rw [hL] at hl
    simp [hl, awakeK_run]
  · rw [hL] at hl
    cases hF : fewM fs
    · rw [hF] at hf
      simp [hl, hf, awakeK_run]
    · rw [hF] at hf
      by_cases hc : checkK nm ramp g w l = 0
      · have h1 := begunGood_run nm ramp g w l hc
        have iv := inv_new hc
        simp only [fewM, Bool.and_eq_true, decide_eq_true_eq] at hF
        obtain ⟨tt, hh, ih, e1, e2⟩ := counts_out fs hF.1 (by omega) nm ramp g w l bigL 0 fs (newK nm ramp g w l) true true rfl (by have := bigL_ge; omega) iv rfl (by simp [newK])
        subst e1 e2
        simp [newK] at h1 ih
        simp [hl, hf, h1, ih, awakeK_run]
      · have hb : l.length ≤ 1000000 := by
          simp [lightM] at hL
          omega
        have h1 := begunBad_run nm ramp g w l hb hc
        simp at h1
        simp [hl, hf, h1, hc, awakeK_run]
theorem kilnCounts_abs (xs : List D) (h : TyArgs Tryd.prog Tryd.f5.params.toList xs) : Contract Tryd.prog gl 5 xs (.x (.bool true)) := by
  simp [TyArgs] at h
  obtain ⟨d, r, rfl, h1, d', rfl, h2⟩ := h
  obtain ⟨nm, ramp, g, w, l, rfl⟩ := tyCase h1
  obtain ⟨fs, rfl, hfs, _⟩ := tyFaults h2
  exact C_law38_KilnCounts _ _ (counts_law nm ramp g w l fs hfs)
end Go.Proofs.YthgamgdcjgbmnaaDoor
