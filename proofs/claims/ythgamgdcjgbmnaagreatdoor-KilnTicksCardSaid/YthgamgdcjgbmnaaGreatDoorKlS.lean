/-
  KilnTicks, run abstractly.
-/
import Derived.Test.YthgamgdcjgbmnaaGreatDoorKlR
import Derived.Test.YthgamgdcjgbmnaaGreatDoorKlU
namespace Go.Proofs.YthgamgdcjgbmnaaGreatDoor
set_option linter.unusedSimpArgs false
set_option linter.unusedVariables false
open Go Go.Abs
set_option maxHeartbeats 16000000
set_option maxRecDepth 100000
theorem ticks_out (fs : List (List Int)) (hf : few10 fs = true) (hfl : fs.length ≤ 60) : ∀ (n i : Nat) (r : List (List Int)) (k : Kl) (p q q2 : Bool), fs.drop i = r → r.length < n → InvK k →
    ∃ t h, L_law38_KilnTicks 10 n ⟨[(0, .any), (1, .sl (fs.map eF)), (2, .any), (4, .any), (5, .ptr 23 0), (6, .any), (7, .ptr 7 0), (8, .any), (9, I i), (10, .any), (11, .any)], [(23, .box 78 (cK k (slQ p (k.stages.map eSg)) (slQ q (k.items.map eT)))), (7, .box 41 (cK k (.sl (k.stages.map eSg)) (slQ q2 (k.items.map eT))))]⟩ =
      some (.ex 0, ⟨t, h⟩) ∧ t = [(0, .any), (1, .any), (2, .any), (4, .any), (5, .any), (6, .any), (7, .any), (8, .any), (9, .any), (10, .any), (11, .any)] ∧ h = []
  | 0, _, _, _, _, _, _, _, hn, _ => by omega
  | n + 1, i, [], k, p, q, q2, hr, hn, iv => by
    rw [L_law38_KilnTicks_succ, R_law38_KilnTicks_eq]
    cases p <;> cases q <;> cases q2 <;> simp [dn hr]
  | n + 1, i, x :: r, k, p, q, q2, hr, hn, iv => by
    obtain ⟨h1, h3, hr', hi⟩ := dc (enc := eF) hr
    have hw := wrapN (n := i) (by omega)
    have hx : x.length ≤ 10 := few10_mem hf x (by have := List.mem_of_mem_drop (hr ▸ List.mem_cons_self : x ∈ fs.drop i); exact this)
    have st := iv.stage
    have st12 := iv.stages
    have hmany := iv.many
    by_cases hd : k.stage = k.stages.length
    · have t := tickDone_run k x (by omega)
      have u := rtickDone_run k x (by omega)
      have is := is_run k iv.some (by omega) st
      obtain ⟨tt, hh, ih, e1, e2⟩ := ticks_out fs hf hfl n (i + 1) r k false false false hr' (by simp at hn; omega) iv
      subst e1 e2
      refine ⟨_, _, ?_, rfl, rfl⟩
      rw [L_law38_KilnTicks_succ, R_law38_KilnTicks_eq]
      simp at t u is ih
      cases p <;> cases q <;> cases q2 <;> simp (config := { maxSteps := 2000000 }) [h1, h3, t, u, is, hw, ih]
    · have t := tick'_run k x (by omega) (by omega) (by omega) iv.some (by omega)
      have u := rtick'_run k x (by omega) (by omega) (by omega) (by omega)
      have iv2 := inv_tick iv (by omega) x
      have hs : (tickK k x).stages = k.stages := rfl
      have is := is_run (tickK k x) iv2.some (by have := iv2.many; omega) iv2.stage
      have hst2 := iv2.stage
      obtain ⟨tt, hh, ih, e1, e2⟩ := ticks_out fs hf hfl n (i + 1) r (tickK k x) false true true hr' (by simp at hn; omega) iv2
      subst e1 e2
      refine ⟨_, _, ?_, rfl, rfl⟩
      rw [L_law38_KilnTicks_succ, R_law38_KilnTicks_eq]
      have hdk : doneK (tickK k x) = decide (k.stages.length ≤ (tickK k x).stage) := by
        unfold doneK
        rw [hs] at hst2 ⊢
        by_cases g : (tickK k x).stage = k.stages.length
        · rw [decide_eq_true (by omega), decide_eq_true (by omega)]
        · rw [decide_eq_false (by omega), decide_eq_false (by omega)]
      rw [hdk] at t
      generalize (!decide (k.stages.length ≤ (tickK k x).stage)) = dd at t u
      rw [hs] at ih
      simp only [eK_eq, hs] at is
      clear hdk hst2 iv2 hs
      generalize tickK k x = k' at *
      simp at t u is ih
      cases p <;> cases q <;> cases q2 <;> simp (config := { maxSteps := 2000000 }) [h1, h3, t, u, is, hw, ih]
theorem ticks_lawK (nm : ByteArray) (ramp : Int) (g : List Stg) (w : Spc) (l : List Itm) (fs : List (List Int)) (hfs : fs.length ≤ 9223372036854775807) : F_law38_KilnTicks [.agg (eCase nm ramp g w l), .sl (fs.map eF)] = some (B true) := by
  rw [F_law38_KilnTicks_eq]
  have hl := light_run nm ramp g w l
  have hf := few_run fs hfs
  simp at hl
  cases hL : lightM nm g w l
  · rw [hL] at hl
    simp [hl, awakeK_run]
  · rw [hL] at hl
    cases hF : fewM fs
    · rw [hF] at hf
      simp [hl, hf, awakeK_run]
    · rw [hF] at hf
      by_cases hc : checkK nm ramp g w l = 0
      · have h1 := begunGood_run nm ramp g w l hc
        have h2 := rnewGood_run nm ramp g w l hc
        have iv := inv_new hc
        simp only [fewM, Bool.and_eq_true, decide_eq_true_eq] at hF
        obtain ⟨tt, hh, ih, e1, e2⟩ := ticks_out fs hF.1 (by omega) bigL 0 fs (newK nm ramp g w l) true true true rfl (by have := bigL_ge; omega) iv
        subst e1 e2
        simp [newK] at h1 h2 ih
        simp [hl, hf, h1, h2, ih, awakeK_run]
      · have hb : l.length ≤ 1000000 := by
          simp [lightM] at hL
          omega
        have h1 := begunBad_run nm ramp g w l hb hc
        have h2 := rnewBad_run nm ramp g w l hc
        simp at h1 h2
        simp [hl, hf, h1, h2, hc, awakeK_run]
theorem kilnTicks_abs (xs : List D) (h : TyArgs Tryz.prog Tryz.f3.params.toList xs) : Contract Tryz.prog gl 3 xs (.x (.bool true)) := by
  simp [TyArgs] at h
  obtain ⟨d, r, rfl, h1, d', rfl, h2⟩ := h
  obtain ⟨nm, ramp, g, w, l, rfl⟩ := tyCase h1
  obtain ⟨fs, rfl, hfs, _⟩ := tyFaults h2
  exact C_law38_KilnTicks _ _ (ticks_lawK nm ramp g w l fs hfs)
end Go.Proofs.YthgamgdcjgbmnaaGreatDoor
