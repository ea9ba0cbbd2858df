/-
  The moisture's statements without the reference, run abstractly.
-/
import Derived.Test.YtmnipfincjpofaaMoC
namespace Go.Proofs.Ytmnipfincjpofaa
set_option linter.unusedSimpArgs false
set_option linter.unusedVariables false
open Go Go.Abs
set_option maxHeartbeats 2000000
set_option maxRecDepth 100000
/-- Whether a number lies between two others, or is one of them. -/
def btw (n a b : Int) : Bool := (decide (a ≤ n) && decide (n ≤ b)) || (decide (b ≤ n) && decide (n ≤ a))
theorem btw_iff {n a b : Int} : btw n a b = true ↔ (a ≤ n ∧ n ≤ b) ∨ (b ≤ n ∧ n ≤ a) := by simp [btw]
theorem btw_run (n a b : Int) : F_law36_between [I n, I a, I b] = some (B (btw n a b)) := by
  rw [F_law36_between_eq]
  unfold btw
  simp
  by_cases h1 : a ≤ n <;> by_cases h2 : n ≤ b <;> by_cases h3 : b ≤ n <;> by_cases h4 : n ≤ a <;> simp [h1, h2, h3, h4] <;> omega
def size (n : Int) : Int := if n < -n then -n else n
theorem size_run {n : Int} (h : -20000 ≤ n ∧ n ≤ 20000) : F_law36_size [I n] = some (I (size n)) := by
  rw [F_law36_size_eq]
  have w : IntKind.i64.wrap (-n) = -n := wrap64 (by omega) (by omega)
  simp [w, size]
theorem grad_rng (x : Cel) : -20000 ≤ grad x ∧ grad x ≤ 20000 := by
  unfold grad
  split
  · rename_i h
    obtain ⟨h1, h2, _⟩ := checkM_zero.1 h
    omega
  · omega
theorem Comp.check {x : Cel} {w : Spc} {th t d : Int} (h : Comp x w th t d) : checkM x = 0 := checkM_zero.2 ⟨h.s, h.c, h.st⟩
/-- What a tick comes to. -/
structure Ticked (x y : Cel) (w : Spc) (t d : Int) : Prop where
  s : y.s = x.s ∨ btw y.s x.s (emc t d) = true
  c : btw y.c x.c y.s = true
  st : x.st ≤ y.st
  ok : checkM y = 0
  new : y.st = if 1099511627776 < x.st + (if 0 < y.c - y.s - w.safe then y.c - y.s - w.safe else 0) then 1099511627776 else x.st + (if 0 < y.c - y.s - w.safe then y.c - y.s - w.safe else 0)
theorem ticked {x : Cel} {w : Spc} {th t d : Int} (h : Comp x w th t d) (fan : Bool) : Ticked x (tick x w th t d fan) w t d := by
  have hc := comp_iff.2 h
  obtain ⟨f1, f2, _⟩ := tick_facts h fan
  have he := emc_range t d
  have hk1 := clampN_1 (w.fast * t / 200)
  have hk2 := clampN_1 (w.slow * t * 25 / (200 * th))
  have b1 := (tow_between h.c f1 (k := kC w th t) (by unfold kC; omega)).2
  have hst := h.st
  rw [tick, if_pos hc]
  refine ⟨?_, btw_iff.2 (by show (_ ≤ newC x w th t d fan ∧ _) ∨ _; unfold newC; omega), ?_, checkM_zero.2 ⟨f1, f2, ?_⟩, rfl⟩
  · cases fan
    · exact .inl rfl
    · right
      have := (tow_between h.s (b := emc t d) (by omega) (k := kS w t) (by unfold kS; omega)).2
      refine btw_iff.2 ?_
      show (_ ≤ newS x w t d true ∧ _) ∨ _
      unfold newS
      simp only [if_true]
      exact this
  · show x.st ≤ newSt x w th t d fan
    unfold newSt
    repeat' split
    all_goals omega
  · show 0 ≤ newSt x w th t d fan ∧ newSt x w th t d fan ≤ 1099511627776
    unfold newSt
    repeat' split
    all_goals omega
theorem tick_not {x : Cel} {w : Spc} {th t d : Int} (h : comp x w th t d = false) (fan : Bool) : tick x w th t d fan = x := by
  rw [tick, if_neg (by simp [h])]
theorem bounds_law (b : Brd) : F_law36_MoistBounds [.agg (eB b)] = some (B true) := by
  rw [F_law36_MoistBounds_eq]
  have h1 := ltick_run b
  have h2 := checkM_run b.cell
  have h3 := checkM_run (tickB b)
  have h4 := emc_run b.t b.d
  simp at h1 h2 h3
  cases hc : comp b.cell b.w b.th b.t b.d
  · have e : tickB b = b.cell := tick_not hc b.fan
    rw [e] at h1 h3
    by_cases hk : checkM b.cell = 0
    · have hb : btw b.cell.c b.cell.c b.cell.s = true := btw_iff.2 (by omega)
      simp [h1, h2, hk, btw_run, hb, awakeM_run]
    · simp [h1, h2, hk, awakeM_run]
  · have hC := comp_iff.1 hc
    have hT := ticked hC b.fan
    have e : tick b.cell b.w b.th b.t b.d b.fan = tickB b := rfl
    rw [e] at hT
    have hk := hC.check
    rw [hT.ok] at h3
    have q := hT.st
    have hs := hT.s
    simp [h1, h2, h3, h4, hk, btw_run, hT.c, q, awakeM_run]
    rcases hs with hs | hs
    · simp [hs]
    · simp [hs]
theorem fans_law (b : Brd) : F_law36_MoistFans [.agg (eB b)] = some (B true) := by
  rw [F_law36_MoistFans_eq]
  have h1 := ltick_run ⟨b.cell, b.w, b.th, b.t, b.d, false⟩
  have h2 := ltick_run ⟨⟨emc b.t b.d, emc b.t b.d, 0⟩, b.w, b.th, b.t, b.d, b.fan⟩
  have h4 := emc_run b.t b.d
  have hr := emc_range b.t b.d
  have q1 : (tickB ⟨b.cell, b.w, b.th, b.t, b.d, false⟩).s = b.cell.s := by
    unfold tickB tick
    split <;> rfl
  have tt : ∀ a k : Int, tow a a k = a := by intro a k; unfold tow; split <;> simp
  have q2 : tickB ⟨⟨emc b.t b.d, emc b.t b.d, 0⟩, b.w, b.th, b.t, b.d, b.fan⟩ = ⟨emc b.t b.d, emc b.t b.d, 0⟩ := by
    unfold tickB tick
    split
    · rename_i hc
      have hC := comp_iff.1 hc
      have hsafe : 0 ≤ b.w.safe ∧ b.w.safe ≤ 20000 := hC.safe
      have e1 : newS ⟨emc b.t b.d, emc b.t b.d, 0⟩ b.w b.t b.d b.fan = emc b.t b.d := by unfold newS; split <;> simp [tt]
      have e2 : newC ⟨emc b.t b.d, emc b.t b.d, 0⟩ b.w b.th b.t b.d b.fan = emc b.t b.d := by unfold newC; rw [e1, tt]
      have e3 : newSt ⟨emc b.t b.d, emc b.t b.d, 0⟩ b.w b.th b.t b.d b.fan = 0 := by
        unfold newSt
        rw [e1, e2]
        simp only []
        repeat' split
        all_goals omega
      rw [e1, e2, e3]
    · rfl
  have q3 : size (grad (tickB ⟨b.cell, b.w, b.th, b.t, b.d, false⟩)) ≤ size (grad b.cell) := by
    cases hc : comp b.cell b.w b.th b.t b.d
    · have e : tickB ⟨b.cell, b.w, b.th, b.t, b.d, false⟩ = b.cell := tick_not hc false
      rw [e]
      exact Int.le_refl _
    · have hC := comp_iff.1 hc
      have hT := ticked hC false
      have e : tick b.cell b.w b.th b.t b.d false = tickB ⟨b.cell, b.w, b.th, b.t, b.d, false⟩ := rfl
      rw [e] at hT
      have c1 := btw_iff.1 hT.c
      rw [grad, grad, if_pos hT.ok, if_pos hC.check]
      unfold size
      rw [q1] at c1 ⊢
      split <;> split <;> omega
  have g1 := grad_run (tickB ⟨b.cell, b.w, b.th, b.t, b.d, false⟩)
  have g2 := grad_run b.cell
  have z1 := size_run (grad_rng (tickB ⟨b.cell, b.w, b.th, b.t, b.d, false⟩))
  have z2 := size_run (grad_rng b.cell)
  rw [q2] at h2
  simp [q1] at h1 h2 g1 g2
  generalize tickB ⟨b.cell, b.w, b.th, b.t, b.d, false⟩ = y at *
  simp [h1, h2, h4, g1, g2, z1, z2, q3, awakeM_run]
/-- A greater speed comes nearer. -/
theorem part_mono {u k k' : Int} (hu : 0 ≤ u) (h : k' ≤ k) : part u k' ≤ part u k := by
  have := Int.ediv_le_ediv (c := 10000) (by omega) (mul_le_l u h hu)
  unfold part
  split <;> split <;> omega
theorem tow_near {a b k k' : Int} (h1 : 1 ≤ k') (h : k' ≤ k) (hk : k ≤ 10000) : size (tow a b k - b) ≤ size (tow a b k' - b) := by
  unfold tow
  have z1 : ¬ k = 0 := by omega
  have z2 : ¬ k' = 0 := by omega
  simp only [z1, z2, if_false]
  by_cases e : a = b
  · simp only [e, if_true]; exact Int.le_refl _
  · simp only [e, if_false]
    by_cases l : b < a
    · simp only [l, if_true]
      have m := part_mono (u := a - b) (by omega) h
      have p := part_le (u := a - b) (k := k) (by omega) (by omega)
      unfold size
      split <;> split <;> omega
    · simp only [l, if_false]
      have m := part_mono (u := b - a) (by omega) h
      have p := part_le (u := b - a) (k := k) (by omega) (by omega)
      unfold size
      split <;> split <;> omega
theorem clampN_mono {a b lo hi : Int} (h : a ≤ b) (hl : lo ≤ hi) : clampN a lo hi ≤ clampN b lo hi := by
  unfold clampN
  repeat' split
  all_goals omega
theorem thick_law (b : Brd) (more : Int) (hm : -9223372036854775808 ≤ more ∧ more ≤ 9223372036854775807) : F_law36_MoistThick [.agg (eB b), I more] = some (B true) := by
  rw [F_law36_MoistThick_eq]
  by_cases c1 : b.th < 1
  · simp [c1, awakeM_run]
  · by_cases c2 : more < 0
    · simp [c1, c2, awakeM_run]
    · by_cases c3 : 600 < more
      · simp [c1, c2, c3, awakeM_run]
      · have w0 : IntKind.i64.wrap (600 - more) = 600 - more := wrap64 (by omega) (by omega)
        by_cases c4 : 600 - more < b.th
        · simp [c1, c2, c3, w0, c4, awakeM_run]
        · have w1 : IntKind.i64.wrap (b.th + more) = b.th + more := wrap64 (by omega) (by omega)
          have h1 := ltick_run b
          have h2 := ltick_run ⟨b.cell, b.w, b.th + more, b.t, b.d, b.fan⟩
          have g1 := grad_run (tickB b)
          have g2 := grad_run (tickB ⟨b.cell, b.w, b.th + more, b.t, b.d, b.fan⟩)
          have z1 := size_run (grad_rng (tickB b))
          have z2 := size_run (grad_rng (tickB ⟨b.cell, b.w, b.th + more, b.t, b.d, b.fan⟩))
          have key : (tickB b).s = (tickB ⟨b.cell, b.w, b.th + more, b.t, b.d, b.fan⟩).s ∧ size (grad (tickB b)) ≤ size (grad (tickB ⟨b.cell, b.w, b.th + more, b.t, b.d, b.fan⟩)) := by
            have hcc : comp b.cell b.w (b.th + more) b.t b.d = comp b.cell b.w b.th b.t b.d := by
              unfold comp
              have e1 : decide (1 ≤ b.th + more) = true := decide_eq_true (by omega)
              have e2 : decide (b.th + more ≤ 600) = true := decide_eq_true (by omega)
              have e3 : decide (1 ≤ b.th) = true := decide_eq_true (by omega)
              have e4 : decide (b.th ≤ 600) = true := decide_eq_true (by omega)
              rw [e1, e2, e3, e4]
            cases hc : comp b.cell b.w b.th b.t b.d
            · have e : tickB b = b.cell := tick_not hc b.fan
              have e' : tickB ⟨b.cell, b.w, b.th + more, b.t, b.d, b.fan⟩ = b.cell := tick_not (hcc.trans hc) b.fan
              rw [e, e']
              exact ⟨rfl, Int.le_refl _⟩
            · have hC := comp_iff.1 hc
              have hC' := comp_iff.1 (hcc.trans hc)
              have o1 := (ticked hC b.fan).ok
              have o2 := (ticked hC' b.fan).ok
              have hk2 := clampN_1 (b.w.slow * b.t * 25 / (200 * (b.th + more)))
              have hk1 := clampN_1 (b.w.slow * b.t * 25 / (200 * b.th))
              have hs := hC.slow
              have ht := hC.t
              have m0 : 0 ≤ b.w.slow * b.t * 25 := Int.mul_nonneg (Int.mul_nonneg (by omega) (by omega)) (by omega)
              have hdiv : b.w.slow * b.t * 25 / (200 * (b.th + more)) ≤ b.w.slow * b.t * 25 / (200 * b.th) := by
                refine Int.le_ediv_of_mul_le (by omega) ?_
                have q0 : 0 ≤ b.w.slow * b.t * 25 / (200 * (b.th + more)) := Int.ediv_nonneg m0 (by omega)
                have q1 := Int.ediv_mul_le (b.w.slow * b.t * 25) (b := 200 * (b.th + more)) (by omega)
                have q2 := mul_le_l (b.w.slow * b.t * 25 / (200 * (b.th + more))) (a := 200 * b.th) (b := 200 * (b.th + more)) (by omega) q0
                omega
              have hkk : kC b.w (b.th + more) b.t ≤ kC b.w b.th b.t := clampN_mono hdiv (by omega)
              have n := tow_near (a := b.cell.c) (b := newS b.cell b.w b.t b.d b.fan) (k := kC b.w b.th b.t) (k' := kC b.w (b.th + more) b.t) (by unfold kC; omega) hkk (by unfold kC; omega)
              have e1 : tickB b = ⟨newS b.cell b.w b.t b.d b.fan, newC b.cell b.w b.th b.t b.d b.fan, newSt b.cell b.w b.th b.t b.d b.fan⟩ := if_pos hc
              have e2 : tickB ⟨b.cell, b.w, b.th + more, b.t, b.d, b.fan⟩ = ⟨newS b.cell b.w b.t b.d b.fan, newC b.cell b.w (b.th + more) b.t b.d b.fan, newSt b.cell b.w (b.th + more) b.t b.d b.fan⟩ := if_pos (hcc.trans hc)
              have o1' : checkM (tickB b) = 0 := o1
              have o2' : checkM (tickB ⟨b.cell, b.w, b.th + more, b.t, b.d, b.fan⟩) = 0 := o2
              rw [grad, grad, if_pos o1', if_pos o2', e1, e2]
              exact ⟨rfl, n⟩
          simp at h1 h2 g1 g2
          generalize tickB b = y at *
          generalize tickB ⟨b.cell, b.w, b.th + more, b.t, b.d, b.fan⟩ = y' at *
          obtain ⟨k1, k2⟩ := key
          simp [c1, c2, c3, w0, c4, w1, h1, h2, g1, g2, z1, z2, k2, awakeM_run]
          exact k1
end Go.Proofs.Ytmnipfincjpofaa
