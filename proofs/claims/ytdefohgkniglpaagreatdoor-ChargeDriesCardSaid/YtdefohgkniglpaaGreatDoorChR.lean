/-
  The reference's charge, run abstractly.
-/
import Derived.Test.YtdefohgkniglpaaGreatDoorKlR
import Derived.Test.YtdefohgkniglpaaGreatDoorChF
namespace Go.Proofs.YtdefohgkniglpaaGreatDoor
set_option linter.unusedSimpArgs false
set_option linter.unusedVariables false
open Go Go.Abs
set_option maxHeartbeats 16000000
set_option maxRecDepth 100000
theorem rLen_run {a b : Int} (ha : i64 a) (hb : i64 b) : F_ref03_Len [.agg [I a, I b]] = some (I (lenS a b)) := by
  rw [F_ref03_Len_eq]
  unfold i64 at ha hb
  unfold lenS
  by_cases h : b ≤ a
  · simp [h]
  · by_cases h0 : a < 0
    · have w1 : IntKind.i64.wrap (9223372036854775807 + a) = 9223372036854775807 + a := wrap64 (by omega) (by omega)
      by_cases h1 : 9223372036854775807 < b - a
      · have h2 : 9223372036854775807 + a < b := by omega
        simp [h, h0, w1, h1, h2]
      · have h2 : ¬ 9223372036854775807 + a < b := by omega
        have w2 : IntKind.i64.wrap (b - a) = b - a := wrap64 (by omega) (by omega)
        simp [h, h0, w1, w2, h1, h2]
    · have h1 : ¬ 9223372036854775807 < b - a := by omega
      have w2 : IntKind.i64.wrap (b - a) = b - a := wrap64 (by omega) (by omega)
      simp [h, h0, w2, h1]
theorem rthick_run {b : Bd} (h : okBd b) : F_ref40_Thick [.agg (eBd b)] = some (I (thk b)) := by
  rw [F_ref40_Thick_eq]
  have h1 := rLen_run h.1.1 h.1.2
  have h2 := rLen_run h.2.1.1 h.2.1.2
  unfold thk
  simp [h1, h2]
theorem rcheckCh_loop (l : List Bd) (w : Spc) (nm : ByteArray) (ramp : Int) (g : List Stg) (hl : l.length ≤ 1000000) (hok : ∀ b ∈ l, okBd b) : ∀ (n i : Nat) (r : List Bd), l.drop i = r → r.length < n →
    L_ref40_Check 6 n ⟨[(0, .sl (l.map eBd)), (1, .any), (2, .any), (4, .ptr 4 0), (5, .ptr 5 0), (6, .any), (7, I i), (8, .any), (9, .any), (10, .any)], [(4, .box 24 (eS w)), (5, .box 27 [S nm, I ramp, .sl (g.map eSg)])]⟩ =
      if checkB w.name r = 0 then some (.ex 0, ⟨[(0, .any), (1, .any), (2, .any), (4, .ptr 4 0), (5, .ptr 5 0), (6, .any), (7, .any), (8, .any), (9, .any), (10, .any)], [(4, .box 24 (eS w)), (5, .box 27 [S nm, I ramp, .sl (g.map eSg)])]⟩)
      else some (.ret, ⟨[(0, .any), (1, .any), (2, .any), (4, .any), (5, .any), (6, I (checkB w.name r)), (7, .any), (8, .any), (9, .any), (10, .any)], []⟩)
  | 0, _, _, _, hn => by omega
  | n + 1, i, [], hr, hn => by
    rw [L_ref40_Check_succ, R_ref40_Check_eq]
    simp [dn hr, checkB]
  | n + 1, i, x :: r, hr, hn => by
    rw [L_ref40_Check_succ, R_ref40_Check_eq]
    obtain ⟨h1, h3, hr', hi⟩ := dc (enc := eBd) hr
    have hw := wrapN (n := i) (by omega)
    have ih := rcheckCh_loop l w nm ramp g hl hok n (i + 1) r hr' (by simp at hn; omega)
    have hc := rcheckM_run x.cel
    have ht := rthick_run (hok x (List.mem_of_mem_drop (hr ▸ List.mem_cons_self : x ∈ l.drop i)))
    simp at ih hc ht
    by_cases a1 : x.sp = w.name
    · cases a2 : x.dried
      · simp only [a1, a2] at ht
        by_cases a3 : checkM x.cel = 0
        · by_cases a4 : thk x < 1
          · have a4' : ¬ 1 ≤ thk x := by omega
            simp [h1, h3, hc, ht, checkB, a1, a2, a3, a4, a4']
          · have a4' : 1 ≤ thk x := by omega
            by_cases a5 : 600 < thk x
            · simp [h1, h3, hc, ht, checkB, a1, a2, a3, a4, a4', a5]
            · simp [h1, h3, hc, ht, checkB, a1, a2, a3, a4, a4', a5, hw, ih]
        · simp [h1, h3, hc, ht, checkB, a1, a2, a3]
      · simp [h1, h3, hc, ht, checkB, a1, a2]
    · simp [h1, h3, hc, ht, checkB, a1]
theorem rcheckCh_run (l : List Bd) (w : Spc) (nm : ByteArray) (ramp : Int) (g : List Stg) (hl : l.length ≤ 1000000) (hok : ∀ b ∈ l, okBd b) : F_ref40_Check [.sl (l.map eBd), .agg (eS w), .agg [S nm, I ramp, .sl (g.map eSg)]] = some (I (checkCh l w nm ramp g)) := by
  rw [F_ref40_Check_eq]
  have h1 := rschedule_run nm ramp g
  have h2 := rwood_run w
  have ih := rcheckCh_loop l w nm ramp g hl hok bigL 0 l rfl (by have := bigL_ge; omega)
  simp at h2 ih
  unfold checkCh
  by_cases a1 : l.length = 0
  · simp [a1]
  · by_cases a2 : (1024 : Int) < l.length
    · simp [a1, a2]
    · by_cases a3 : checkB w.name l = 0
      · by_cases a4 : checkSg nm ramp g = 0
        · simp [a3] at ih
          simp [a1, a2, a3, a4, ih, h1, h2]
        · simp [a3] at ih
          simp [a1, a2, a3, a4, ih, h1, h2]
      · simp [a3] at ih
        simp [a1, a2, a3, ih]
theorem plain_run (a b c d e f : Int) : F_law40_plain [.agg [I a, I b, I c, I d, I e, I f]] = some (.agg [I a, I b, I c, I d, I e, I f]) := by
  rw [F_law40_plain_eq]
  simp
theorem safeC_run (a b c d e f : Int) (w : Spc) : F_charge_Safe [.agg [I a, I b, I c, I d, I e, I f], .agg (eS w)] = some (B (decide (d ≤ w.temp) && (decide (e ≤ w.dep) && decide (f ≤ w.grad)))) := by
  rw [F_charge_Safe_eq]
  simp
theorem rsafe_run (a b c d e f : Int) (w : Spc) : F_ref40_Safe [.agg [I a, I b, I c, I d, I e, I f], .agg (eS w)] = some (B (decide (d ≤ w.temp) && (decide (e ≤ w.dep) && decide (f ≤ w.grad)))) := by
  rw [F_ref40_Safe_eq]
  simp
theorem checks_law (g : Gv) (ok : okGv g) (a b c d e f : Int) : F_law40_ChargeChecks [.agg (eGv g), .agg [I a, I b, I c, I d, I e, I f]] = some (B true) := by
  rw [F_law40_ChargeChecks_eq]
  have hf := few_run g
  simp at hf
  cases hF : fewM g
  · rw [hF] at hf
    simp [hf, awake_run]
  · rw [hF] at hf
    have fw := few_of hF
    have hl := fw.l
    have h1 := checkCh_run g.l g.w g.nm g.ramp g.sg (by omega) ok.b
    have h2 := rcheckCh_run g.l g.w g.nm g.ramp g.sg (by omega) ok.b
    have h3 := plain_run a b c d e f
    have h4 := safeC_run a b c d e f g.w
    have h5 := rsafe_run a b c d e f g.w
    generalize (decide (d ≤ g.w.temp) && (decide (e ≤ g.w.dep) && decide (f ≤ g.w.grad))) = bb at *
    simp at h1 h2 h4 h5
    simp [hf, h1, h2, h3, h4, h5, awake_run]
theorem rfault_loop (l : List Flt) (hl : l.length ≤ 1000000) : ∀ (n i : Nat) (r : List Flt), l.drop i = r → r.length < n →
    L_ref40_checkFaults 2 n ⟨[(0, .sl (l.map eFl)), (2, .any), (3, I i)], []⟩ =
      if checkF r = 0 then some (.ex 0, ⟨[(0, .any), (2, .any), (3, .any)], []⟩) else some (.ret, ⟨[(0, .any), (2, I (checkF r)), (3, .any)], []⟩)
  | 0, _, _, _, hn => by omega
  | n + 1, i, [], hr, hn => by
    rw [L_ref40_checkFaults_succ, R_ref40_checkFaults_eq]
    simp [dn hr, checkF]
  | n + 1, i, x :: r, hr, hn => by
    rw [L_ref40_checkFaults_succ, R_ref40_checkFaults_eq]
    obtain ⟨h1, h3, hr', hi⟩ := dc (enc := eFl) hr
    have hw := wrapN (n := i) (by omega)
    have ih := rfault_loop l hl n (i + 1) r hr' (by simp at hn; omega)
    simp at ih
    by_cases a1 : x.kind < 1
    · simp [h1, h3, checkF, a1]
    by_cases a2 : 3 < x.kind
    · simp [h1, h3, checkF, a1, a2]
    by_cases a3 : x.a < 0
    · simp [h1, h3, checkF, a1, a2, a3]
    by_cases a4 : x.b ≤ x.a
    · simp [h1, h3, checkF, a1, a2, a3, a4]
    by_cases a5 : 20000 < x.b
    · simp [h1, h3, checkF, a1, a2, a3, a4, a5]
    simp [h1, h3, checkF, a1, a2, a3, a4, a5, hw, ih]
theorem rfault_run (l : List Flt) (hl : l.length ≤ 1000000) : F_ref40_checkFaults [.sl (l.map eFl)] = some (I (checkF l)) := by
  rw [F_ref40_checkFaults_eq]
  have ih := rfault_loop l hl bigL 0 l rfl (by have := bigL_ge; omega)
  simp at ih
  by_cases h : checkF l = 0 <;> simp [ih, h]
end Go.Proofs.YtdefohgkniglpaaGreatDoor
