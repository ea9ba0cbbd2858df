/-
  Ticks under any faults, run abstractly: the law KilnLimits.
-/
import Derived.Test.YthgamgdcjgbmnaaDoorKlF
namespace Go.Proofs.YthgamgdcjgbmnaaDoor
set_option linter.unusedSimpArgs false
set_option linter.unusedVariables false
open Go Go.Abs
set_option maxHeartbeats 8000000
set_option maxRecDepth 100000
def eF (f : List Int) : List D := [.sl (f.map eI)]
@[simp] theorem eF_eq (f : List Int) : eF f = [.sl (f.map eI)] := rfl
/-- A slice that is read, fresh or not. -/
def slQ (q : Bool) (es : List (List D)) : D := if q = true then .own true es else .sl es
@[simp] theorem slQ_true (es : List (List D)) : slQ true es = .own true es := rfl
@[simp] theorem slQ_false (es : List (List D)) : slQ false es = .sl es := rfl
def few10 : List (List Int) → Bool
  | [] => true
  | f :: r => if (10 : Int) < f.length then false else few10 r
theorem few10_mem : ∀ {l : List (List Int)}, few10 l = true → ∀ f ∈ l, f.length ≤ 10
  | [], _, f, hf => by simp at hf
  | x :: r, h, f, hf => by
    unfold few10 at h
    split at h
    · simp at h
    · rcases List.mem_cons.1 hf with rfl | hf
      · omega
      · exact few10_mem h f hf
def fewM (l : List (List Int)) : Bool := few10 l && decide ((l.length : Int) ≤ 60)
theorem few_loop (l : List (List Int)) (hl : l.length ≤ 9223372036854775807) : ∀ (n i : Nat) (r : List (List Int)), l.drop i = r → r.length < n →
    L_law38_few 2 n ⟨[(0, .sl (l.map eF)), (2, .any), (3, I i)], []⟩ =
      if few10 r = true then some (.ex 0, ⟨[(0, .sl (l.map eF)), (2, .any), (3, .any)], []⟩) else some (.ret, ⟨[(0, .any), (2, B false), (3, .any)], []⟩)
  | 0, _, _, _, hn => by omega
  | n + 1, i, [], hr, hn => by
    rw [L_law38_few_succ, R_law38_few_eq]
    simp [dn hr, few10]
  | n + 1, i, x :: r, hr, hn => by
    rw [L_law38_few_succ, R_law38_few_eq]
    obtain ⟨h1, h3, hr', hi⟩ := dc (enc := eF) hr
    have hw := wrapN (n := i) (by omega)
    have ih := few_loop l hl n (i + 1) r hr' (by simp at hn; omega)
    simp at ih
    by_cases a1 : (10 : Int) < x.length
    · simp [h1, h3, few10, a1]
    · simp [h1, h3, few10, a1, hw, ih]
theorem few_run (l : List (List Int)) (hl : l.length ≤ 9223372036854775807) : F_law38_few [.sl (l.map eF)] = some (B (fewM l)) := by
  rw [F_law38_few_eq]
  unfold fewM
  have ih := few_loop l hl bigL 0 l rfl (by have := bigL_ge; omega)
  simp at ih
  cases h : few10 l <;> simp [ih, h]
theorem step_run (k : Kl) (f : List Int) (hfl : f.length ≤ 10) (iv : InvK k) :
    E_kiln_Kiln_Tick [(1000, .box 74 (eK k))] [.ptr 1000 0, .sl (f.map eI)] =
      some (B (!doneK (stepK k f)), [(1000, .box 74 (cK (stepK k f) (.sl (k.stages.map eSg)) (slQ (!doneK k) ((stepK k f).items.map eT))))]) := by
  have h1 := iv.stage
  by_cases hd : k.stage = k.stages.length
  · have e1 : doneK k = true := by simp [doneK, hd]
    have e2 : stepK k f = k := by simp [stepK, hd]
    rw [tickDone_run k f (by omega), e2, e1]
    rfl
  · have e1 : doneK k = false := by simp [doneK]; omega
    have e2 : stepK k f = tickK k f := by simp [stepK, hd]
    rw [tick'_run k f (by omega) (by omega) (by have := iv.stages; omega) iv.some (by have := iv.many; omega), e2, e1]
    rfl
theorem limits_in (fs : List (List Int)) (nm : ByteArray) (ramp : Int) (g : List Stg) (w : Spc) (l : List Itm) (k : Kl) (c : Nat) (q : Bool) (sg : List Stg) (hb : k.items.length ≤ 1024) (hB : BndL w.grad k.items l) : ∀ (n i : Nat) (r : List Itm), k.items.drop i = r → r.length < n →
    L_law38_KilnLimits 17 n ⟨[(0, .any), (1, .sl (fs.map eF)), (2, .ptr 2 0), (4, .any), (5, .ptr 22 0), (6, .any), (7, I c), (8, .any), (9, .own true (k.items.map eT)), (10, I i)], [(2, .box 29 (eCase nm ramp g w l)), (22, .box 74 (cK k (.sl (sg.map eSg)) (slQ q (k.items.map eT))))]⟩ =
      some (.ex 2, ⟨[(0, .any), (1, .sl (fs.map eF)), (2, .ptr 2 0), (4, .any), (5, .ptr 22 0), (6, .any), (7, I c), (8, .any), (9, .any), (10, .any)], [(2, .box 29 (eCase nm ramp g w l)), (22, .box 74 (cK k (.sl (sg.map eSg)) (slQ q (k.items.map eT))))]⟩)
  | 0, _, _, _, hn => by omega
  | n + 1, i, [], hr, hn => by
    rw [L_law38_KilnLimits_succ, R_law38_KilnLimits_eq]
    cases q <;> simp [dn hr]
  | n + 1, i, x :: r, hr, hn => by
    rw [L_law38_KilnLimits_succ, R_law38_KilnLimits_eq]
    obtain ⟨h1, h3, hr', hi⟩ := dc (enc := eT) hr
    have hw := wrapN (n := i) (by omega)
    have ih := limits_in fs nm ramp g w l k c q sg hb hB n (i + 1) r hr' (by simp at hn; omega)
    have hlen := hB.len
    have hil : i < l.length := by omega
    have k1 := mapGet (enc := eT) hil
    have hx : k.items[i]? = some x := by
      have := congrArg List.head? hr
      simpa [List.head?_drop] using this
    obtain ⟨b1, b2, b3⟩ := hB.at i x l[i] hx (by simp [hil])
    have g1 := grad_run x.cel
    have g2 := grad_run l[i].cel
    have c1 := checkM_run x.cel
    rw [b3] at c1
    simp at ih g1 g2 c1
    have hk3 : (i : Int) < l.length := by omega
    have b2' : ¬ (if w.grad < grad l[i].cel then grad l[i].cel else w.grad) < grad x.cel := by omega
    generalize l[i] = y at *
    cases q <;> simp [h1, h3, k1, hk3, hw, b1, g1, g2, c1, b2'] at ih ⊢ <;> simp [ih]
theorem limits_out (fs : List (List Int)) (hf : few10 fs = true) (hfl : fs.length ≤ 60) (nm : ByteArray) (ramp : Int) (g : List Stg) (w : Spc) (l : List Itm) : ∀ (n i : Nat) (r : List (List Int)) (k : Kl) (p q : Bool), fs.drop i = r → r.length < n → InvK k → k.w = w → BndL w.grad k.items l →
    ∃ t h, L_law38_KilnLimits 7 n ⟨[(0, .any), (1, .sl (fs.map eF)), (2, .ptr 2 0), (4, .any), (5, .ptr 22 0), (6, .any), (7, I i), (8, .any), (9, .any), (10, .any)], [(2, .box 29 (eCase nm ramp g w l)), (22, .box 74 (cK k (slQ p (k.stages.map eSg)) (slQ q (k.items.map eT))))]⟩ =
      some (.ex 0, ⟨t, h⟩) ∧ t = [(0, .any), (1, .any), (2, .any), (4, .any), (5, .any), (6, .any), (7, .any), (8, .any), (9, .any), (10, .any)] ∧ h = []
  | 0, _, _, _, _, _, _, hn, _, _, _ => by omega
  | n + 1, i, [], k, p, q, hr, hn, iv, hw, hB => by
    rw [L_law38_KilnLimits_succ, R_law38_KilnLimits_eq]
    cases p <;> cases q <;> simp [dn hr]
  | n + 1, i, x :: r, k, p, q, hr, hn, iv, hkw, hB => by
    obtain ⟨h1, h3, hr', hi⟩ := dc (enc := eF) hr
    have hw := wrapN (n := i) (by omega)
    have hx : x.length ≤ 10 := few10_mem hf x (by have := List.mem_of_mem_drop (hr ▸ List.mem_cons_self : x ∈ fs.drop i); exact this)
    have t := step_run k x hx iv
    have iv2 := inv_step iv x
    have B2 := bnd_step iv (hkw ▸ hB) x
    have hs : (stepK k x).stages = k.stages := stepK_stages k x
    have hw2 : (stepK k x).w = w := by rw [stepK_w]; exact hkw
    rw [hw2] at B2
    obtain ⟨tt, hh, ih, e1, e2⟩ := limits_out fs hf hfl nm ramp g w l n (i + 1) r (stepK k x) false (!doneK k) hr' (by simp at hn; omega) iv2 hw2 B2
    subst e1 e2
    refine ⟨_, _, ?_, rfl, rfl⟩
    rw [L_law38_KilnLimits_succ, R_law38_KilnLimits_eq]
    have c := climate_run (stepK k x)
    have it := items_run (stepK k x) (by have := iv2.many; omega)
    have inn := limits_in fs nm ramp g w l (stepK k x) i (!doneK k) k.stages iv2.many B2 bigL 0 (stepK k x).items rfl (by have := bigL_ge; have := iv2.many; omega)
    have q1 := iv2.temp
    have q2 := iv2.dep
    have hli := B2.len
    rw [hw2] at q1 q2
    have q3 : ¬ w.temp < (stepK k x).t := by omega
    have q4 : ¬ w.dep < (stepK k x).d := by omega
    have q5 : ¬ (stepK k x).t < 0 := by omega
    have q6 : ¬ (stepK k x).d < 0 := by omega
    rw [hs] at ih
    simp only [eK_eq, hs] at c it
    generalize stepK k x = k' at *
    generalize (!doneK k) = q' at *
    generalize (!doneK k') = d' at *
    simp [hw2] at t c it inn ih
    cases p <;> cases q <;> cases q' <;> simp at t inn ih <;> simp [h1, h3, t, c, it, q1, q2, q3, q4, q5, q6, hli, inn, hw, ih, hw2]
theorem limits_law (nm : ByteArray) (ramp : Int) (g : List Stg) (w : Spc) (l : List Itm) (fs : List (List Int)) (hfs : fs.length ≤ 9223372036854775807) : F_law38_KilnLimits [.agg (eCase nm ramp g w l), .sl (fs.map eF)] = some (B true) := by
  rw [F_law38_KilnLimits_eq]
  have hl := light_run nm ramp g w l
  have hf := few_run fs hfs
  simp at hl
  cases hL : lightM nm g w l
  · rw [hL] at hl
    simp [hl, awakeK_run]
  · rw [hL] at hl
    cases hF : fewM fs
    · rw [hF] at hf
      simp [hl, hf, awakeK_run]
    · rw [hF] at hf
      by_cases hc : checkK nm ramp g w l = 0
      · have h1 := begunGood_run nm ramp g w l hc
        have iv := inv_new hc
        simp only [fewM, Bool.and_eq_true, decide_eq_true_eq] at hF
        obtain ⟨tt, hh, ih, e1, e2⟩ := limits_out fs hF.1 (by omega) nm ramp g w l bigL 0 fs (newK nm ramp g w l) true true rfl (by have := bigL_ge; omega) iv rfl (BndL.refl iv.cells)
        subst e1 e2
        simp [newK] at h1 ih
        simp [hl, hf, h1, ih, awakeK_run]
      · have hb : l.length ≤ 1000000 := by
          simp [lightM] at hL
          omega
        have h1 := begunBad_run nm ramp g w l hb hc
        simp at h1
        simp [hl, hf, h1, hc, awakeK_run]
end Go.Proofs.YthgamgdcjgbmnaaDoor
