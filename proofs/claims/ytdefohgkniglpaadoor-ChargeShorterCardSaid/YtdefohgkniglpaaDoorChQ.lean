/-
  The statement Shorter, run abstractly.
-/
import Derived.Test.YtdefohgkniglpaaDoorChF
namespace Go.Proofs.YtdefohgkniglpaaDoor
set_option linter.unusedSimpArgs false
set_option linter.unusedVariables false
open Go Go.Abs
set_option maxHeartbeats 16000000
set_option maxRecDepth 100000
/-! ### Shorter -/
theorem shorter_err {g : Gv} {t : Int} (h0 : 0 ≤ t) (h1 : t ≤ g.ticks) (h2 : g.ticks ≤ 20000) : errD ⟨g.l, g.w, g.nm, g.ramp, g.sg, g.fs, t⟩ = errD g := by
  unfold errD
  dsimp only
  split
  · rw [if_neg (by omega), if_neg (by omega), if_neg (by omega), if_neg (by omega)]
  · rfl
theorem shorter_law (g : Gv) (t : Int) (ht : i64 t) (ok : okGv g) : F_law40_ChargeShorter [.agg (eGv g), I t] = some (B true) := by
  rw [F_law40_ChargeShorter_eq]
  have hl := light_run g
  simp at hl
  cases hL : lightM g
  · rw [hL] at hl
    simp [hl, awake_run]
  · rw [hL] at hl
    obtain ⟨fw, h8, _⟩ := light_of hL
    by_cases a1 : 150 < g.ticks
    · simp [hl, a1, awake_run]
    by_cases a2 : t < 0
    · simp [hl, a1, a2, awake_run]
    by_cases a3 : g.ticks < t
    · simp [hl, a1, a2, a3, awake_run]
    have se := shorter_err (g := g) (t := t) (by omega) (by omega) (by omega)
    have ok2 : okGv ⟨g.l, g.w, g.nm, g.ramp, g.sg, g.fs, t⟩ := ⟨ok.l, ok.b, ok.sg, ok.fs, ht⟩
    have fw2 : Few ⟨g.l, g.w, g.nm, g.ramp, g.sg, g.fs, t⟩ := ⟨fw.l, fw.fs, fw.d⟩
    by_cases he : errD g = 0
    · have hd := ldryGood_run g ok fw he
      have hd2 := ldryGood_run ⟨g.l, g.w, g.nm, g.ramp, g.sg, g.fs, t⟩ ok2 fw2 (by rw [se]; exact he)
      obtain ⟨m, s1, s2⟩ := shorter (fs := g.fs) (k := kil g) t.toNat (g.ticks - t).toNat (by omega) ⟨rfl, rfl⟩
      have e1 : runM g.fs (t.toNat + (g.ticks - t).toNat) 0 (firstR (kil g)) = rnM g := by
        rw [show t.toNat + (g.ticks - t).toNat = g.ticks.toNat by omega]
        rfl
      have e2 : runM g.fs t.toNat 0 (firstR (kil g)) = rnM ⟨g.l, g.w, g.nm, g.ramp, g.sg, g.fs, t⟩ := rfl
      have e3 : (t.toNat : Int) = t := by omega
      rw [e1, e2] at m s1 s2
      rw [e3] at s1 s2
      obtain ⟨m1, m2, m3, m4, m5⟩ := m
      generalize outB g = out at *
      generalize outB ⟨g.l, g.w, g.nm, g.ramp, g.sg, g.fs, t⟩ = out2 at *
      generalize rnM g = R at *
      generalize rnM ⟨g.l, g.w, g.nm, g.ramp, g.sg, g.fs, t⟩ = Q at *
      have c1 : ¬ R.k.held < Q.k.held := by omega
      have c2 : ¬ R.k.stage < Q.k.stage := by omega
      have c2' : (Q.k.stage : Int) ≤ R.k.stage := by omega
      simp at hd hd2
      rcases s2 with s2 | rfl
      · have s3 : Q.k.ticks = t := by rw [s1, if_pos s2]
        have s4 : ¬ R.k.ticks < t := by omega
        simp [hl, a1, a2, a3, hd, hd2, s3, s4, s2, m1, m2, m3, m4, m5, c1, c2, c2', awake_run, eqD, eqFs]
      · by_cases s2 : t < Q.k.ticks
        · rw [if_pos s2] at s1
          omega
        · have s3 : (if Q.k.ticks < t then Q.k.ticks else t) = Q.k.ticks := by
            rw [if_neg s2] at s1
            split <;> omega
          simp [hl, a1, a2, a3, hd, hd2, s2, s3, awake_run, eqD, eqFs]
    · have hd := ldryBad_run g ok fw he
      have hd2 := ldryBad_run ⟨g.l, g.w, g.nm, g.ramp, g.sg, g.fs, t⟩ ok2 fw2 (by rw [se]; exact he)
      rw [se] at hd2
      simp at hd hd2
      simp [hl, a1, a2, a3, hd, hd2, he, awake_run]
theorem chargeShorter_abs (xs : List D) (h : TyArgs Tryd.prog Tryd.f6.params.toList xs) : Contract Tryd.prog gl 6 xs (.x (.bool true)) := by
  simp [TyArgs] at h
  obtain ⟨d, r, rfl, h1, d', rfl, h2⟩ := h
  obtain ⟨g, rfl, ok⟩ := tyGv h1
  obtain ⟨t, rfl, ht⟩ := tyI h2
  exact C_law40_ChargeShorter _ _ (shorter_law g t ht ok)
end Go.Proofs.YtdefohgkniglpaaDoor
