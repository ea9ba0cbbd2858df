/-
  A tick of the kiln, and a new kiln, run abstractly.
-/
import Derived.Test.YthgamgdcjgbmnaaDoorKlC
namespace Go.Proofs.YthgamgdcjgbmnaaDoor
set_option linter.unusedSimpArgs false
set_option linter.unusedVariables false
open Go Go.Abs
set_option maxHeartbeats 8000000
set_option maxRecDepth 100000
theorem tickDone_run (k : Kl) (f : List Int) (h : (k.stage : Int) = k.stages.length) : E_kiln_Kiln_Tick [(1000, .box 74 (eK k))] [.ptr 1000 0, .sl (f.map eI)] = some (B false, [(1000, .box 74 (eK k))]) := by
  have d := done_run k
  rw [decide_eq_true h] at d
  simp at d
  rw [E_kiln_Kiln_Tick_eq]; simp [d]
theorem tickC_run (k : Kl) (f : List Int) (hs : k.stage < k.stages.length) (hg : k.stages.length ≤ 1000) (h0 : 0 < k.items.length) (hb : k.items.length ≤ 1000000) (t d : Int) (st : Bool)
    (hn : F_air_Next [.agg [I k.t, I k.d], .agg [I (tgtT k), I (tgtD k)], I k.ramp, .sl (f.map eI)] = some (.agg [I t, I d])) (hf : F_kiln_still [.sl (f.map eI)] = some (B st)) :
    E_kiln_Kiln_Tick [(1000, .box 74 (eK k))] [.ptr 1000 0, .sl (f.map eI)] =
      some (B (!doneK (tickC k t d st)), [(1000, .box 74 (cK (tickC k t d st) (.sl (k.stages.map eSg)) (.own true ((tickC k t d st).items.map eT))))]) := by
  have h1 := done_run k
  rw [decide_eq_false (by omega)] at h1
  have h2 := target_run k.name k.ramp k.w k.stage k.stages hs
  rw [← stgK_eq hs] at h2
  have e1 : (if k.w.temp < (stgK k).temp then k.w.temp else (stgK k).temp) = tgtT k := rfl
  have e2 : (if k.w.dep < (stgK k).dep then k.w.dep else (stgK k).dep) = tgtD k := rfl
  rw [e1, e2] at h2
  have d0 := dried_run ⟨k.name, k.ramp, k.stages, k.w, k.items, t, d, k.stage, k.ins, k.ticks, k.held⟩ false h0 hb
  have d1 := dried_run ⟨k.name, k.ramp, k.stages, k.w, k.items, t, d, k.stage, k.ins, k.ticks, k.held⟩ true h0 hb
  have s1 := steep_run ⟨k.name, k.ramp, k.stages, k.w, k.items, t, d, k.stage, k.ins, k.ticks, k.held⟩ (dryL k.w t d true k.items) (by simp) (by simpa using hb)
  have hl : ∀ fan, (dryL k.w t d fan k.items).length ≤ 1000000 := fun fan => by simpa using hb
  have m1 := fun fan held => meanK_run ⟨k.name, k.ramp, k.stages, k.w, dryL k.w t d fan k.items, t, d, k.stage, IntKind.i64.wrap (k.ins + 1), IntKind.i64.wrap (k.ticks + 1), held⟩ (hl fan)
  have n1 := fun mean => ends_run k.name k.ramp k.stage k.stages hs hg (IntKind.i64.wrap (k.ins + 1)) mean
  rw [← stgK_eq hs] at n1
  have f1 := fun fan held (sg : Nat) ins => done_run ⟨k.name, k.ramp, k.stages, k.w, dryL k.w t d fan k.items, t, d, sg, ins, IntKind.i64.wrap (k.ticks + 1), held⟩
  have f2 := fun fan held ins => f1 fan held (k.stage + 1) ins
  unfold tickC itsK holdK doneK
  rw [E_kiln_Kiln_Tick_eq]
  simp at h1 h2 d0 d1 s1 m1 f1 f2
  cases st
  · cases hst : steepL k.w.grad (dryL k.w t d true k.items) k.items
    · rw [hst] at s1
      cases he : endsG (stgK k) (IntKind.i64.wrap (k.ins + 1)) (meanL (dryL k.w t d true k.items))
      · simp [h1, h2, hn, hf, d0, d1, s1, m1, n1, f1, he]
      · simp [h1, h2, hn, hf, d0, d1, s1, m1, n1, f2, he]
    · rw [hst] at s1
      cases he : endsG (stgK k) (IntKind.i64.wrap (k.ins + 1)) (meanL (dryL k.w t d false k.items))
      · simp [h1, h2, hn, hf, d0, d1, s1, m1, n1, f1, he]
      · simp [h1, h2, hn, hf, d0, d1, s1, m1, n1, f2, he]
  · cases he : endsG (stgK k) (IntKind.i64.wrap (k.ins + 1)) (meanL (dryL k.w t d false k.items))
    · simp [h1, h2, hn, hf, d0, d1, s1, m1, n1, f1, he]
    · simp [h1, h2, hn, hf, d0, d1, s1, m1, n1, f2, he]
theorem tick'_run (k : Kl) (f : List Int) (hfl : f.length ≤ 9223372036854775807) (hs : k.stage < k.stages.length) (hg : k.stages.length ≤ 1000) (h0 : 0 < k.items.length) (hb : k.items.length ≤ 1000000) :
    E_kiln_Kiln_Tick [(1000, .box 74 (eK k))] [.ptr 1000 0, .sl (f.map eI)] =
      some (B (!doneK (tickK k f)), [(1000, .box 74 (cK (tickK k f) (.sl (k.stages.map eSg)) (.own true ((tickK k f).items.map eT))))]) :=
  tickC_run k f hs hg h0 hb _ _ _ (next_run k.t k.d (tgtT k) (tgtD k) k.ramp f hfl) (still_run f hfl)
theorem newK_loop (nm : ByteArray) (ramp : Int) (g : List Stg) (w : Spc) (l : List Itm) (hl : l.length ≤ 1000000) : ∀ (n i : Nat) (r : List Itm), l.drop i = r → r.length < n →
    L_kiln_New 12 n ⟨[(0, .any), (1, .any), (2, .sl (l.map eT)), (3, .ptr 3 0), (4, .ptr 4 0), (6, .any), (7, .any), (8, .any), (9, .any), (11, .any), (12, .any), (30, .sl (l.map eT)), (31, I l.length), (32, I i)], [(3, .box 24 [S nm, I ramp, .sl (g.map eSg)]), (4, .box 26 (eS w))]⟩ =
      if checkT r = 0 then some (.ex 0, ⟨[(0, .any), (1, .any), (2, .sl (l.map eT)), (3, .ptr 3 0), (4, .ptr 4 0), (6, .any), (7, .any), (8, .any), (9, .any), (11, .any), (12, .any), (30, .any), (31, .any), (32, .any)], [(3, .box 24 [S nm, I ramp, .sl (g.map eSg)]), (4, .box 26 (eS w))]⟩)
      else some (.ret, ⟨[(0, .any), (1, .any), (2, .any), (3, .any), (4, .any), (6, .x (.pointer none)), (7, I (checkT r)), (8, .any), (9, .any), (11, .any), (12, .any), (30, .any), (31, .any), (32, .any)], []⟩)
  | 0, _, _, _, hn => by omega
  | n + 1, i, [], hr, hn => by
    rw [L_kiln_New_succ, R_kiln_New_eq]
    simp [dn hr, checkT]
  | n + 1, i, x :: r, hr, hn => by
    rw [L_kiln_New_succ, R_kiln_New_eq]
    obtain ⟨h1, h3, hr', hi⟩ := dc (enc := eT) hr
    have hw := wrapN (n := i) (by omega)
    have ih := newK_loop nm ramp g w l hl n (i + 1) r hr' (by simp at hn; omega)
    have hc := checkM_run x.cel
    simp at ih hc
    by_cases a1 : x.th < 1
    · have a1' : ¬ 1 ≤ x.th := by omega
      simp [h1, h3, hc, checkT, a1, a1']
    have a1' : 1 ≤ x.th := by omega
    by_cases a2 : 600 < x.th
    · simp [h1, h3, hc, checkT, a1, a1', a2]
    by_cases a3 : checkM x.cel = 0
    · simp [h1, h3, hc, checkT, a1, a1', a2, a3, hw, ih]
    · simp [h1, h3, hc, checkT, a1, a1', a2, a3]
theorem newBad_run (nm : ByteArray) (ramp : Int) (g : List Stg) (w : Spc) (l : List Itm) (h : ¬ checkK nm ramp g w l = 0) : E_kiln_New [] [.agg [S nm, I ramp, .sl (g.map eSg)], .agg (eS w), .sl (l.map eT)] = some (.tup [.x (.pointer none), I (checkK nm ramp g w l)], []) := by
  have h1 := schedule_run nm ramp g
  have h2 := wood_run w
  simp at h2
  unfold checkK at h ⊢
  rw [E_kiln_New_eq]
  by_cases a1 : checkSg nm ramp g = 0
  · by_cases a2 : checkW w = 0
    · by_cases a3 : l.length = 0
      · simp [h1, h2, a1, a2, a3]
      · by_cases a4 : (1024 : Int) < l.length
        · simp [h1, h2, a1, a2, a3, a4]
        · have ih := newK_loop nm ramp g w l (by omega) bigL 0 l rfl (by have := bigL_ge; omega)
          simp [a1, a2, a3, a4] at h
          simp [h] at ih
          simp [h1, h2, a1, a2, a3, a4, ih]
    · simp [h1, h2, a1, a2]
  · simp [h1, h2, a1]
theorem newGood_run (nm : ByteArray) (ramp : Int) (g : List Stg) (w : Spc) (l : List Itm) (h : checkK nm ramp g w l = 0) : E_kiln_New [] [.agg [S nm, I ramp, .sl (g.map eSg)], .agg (eS w), .sl (l.map eT)] = some (.tup [.ptr 61 0, I 0], [(61, .box 74 (cK (newK nm ramp g w l) (.own true (g.map eSg)) (.own true (l.map eT))))]) := by
  have h1 := schedule_run nm ramp g
  have h2 := wood_run w
  simp at h2
  unfold checkK at h
  rw [E_kiln_New_eq]
  by_cases a1 : checkSg nm ramp g = 0
  · by_cases a2 : checkW w = 0
    · by_cases a3 : l.length = 0
      · simp [a1, a2, a3] at h
      · by_cases a4 : (1024 : Int) < l.length
        · simp [a1, a2, a3, a4] at h
        · have ih := newK_loop nm ramp g w l (by omega) bigL 0 l rfl (by have := bigL_ge; omega)
          simp [a1, a2, a3, a4] at h
          simp [h] at ih
          have hgl : g.length ≤ 12 ∧ ¬ g.length = 0 := by
            unfold checkSg at a1
            repeat' split at a1
            all_goals first | omega | simp_all
          have c1 := cloneG_run g (by omega)
          have c2 := cloneT_run l (by omega)
          simp [h1, h2, a1, a2, a3, a4, ih, c1, c2, hgl.2, newK, outside_run]
    · simp [a1, a2] at h
  · simp [a1] at h
end Go.Proofs.YthgamgdcjgbmnaaDoor
