/-
  The reference's tick, run abstractly.
-/
import Derived.Test.YtdefohgkniglpaaGreatDoorKlF
namespace Go.Proofs.YtdefohgkniglpaaGreatDoor
set_option linter.unusedSimpArgs false
set_option linter.unusedVariables false
open Go Go.Abs
set_option maxHeartbeats 8000000
set_option maxRecDepth 100000
theorem rtarget_run (nm : ByteArray) (ramp : Int) (w : Spc) (k : Nat) (g : List Stg) (h : k < g.length) : F_ref37_Target [.agg [S nm, I ramp, .sl (g.map eSg)], I k, .agg (eS w)] =
    some (.agg [I (if w.temp < g[k].temp then w.temp else g[k].temp), I (if w.dep < g[k].dep then w.dep else g[k].dep)]) := by
  rw [F_ref37_Target_eq]
  have hx := mapGet (enc := eSg) h
  have h' : ¬ g.length ≤ k := by omega
  simp [hx, h, h']
theorem rends_run (nm : ByteArray) (ramp : Int) (k : Nat) (g : List Stg) (h : k < g.length) (hl : g.length ≤ 1000) (ins mean : Int) : F_ref37_Ends [.agg [S nm, I ramp, .sl (g.map eSg)], I k, I ins, I mean] =
    some (if endsG g[k] ins mean = true then .tup [I (k + 1), B true] else .tup [I k, B false]) := by
  rw [F_ref37_Ends_eq]
  have hx := mapGet (enc := eSg) h
  have h' : ¬ g.length ≤ k := by omega
  have hw := wrapN (n := k) (by omega)
  unfold endsG
  by_cases a1 : 0 < g[k].below <;> by_cases a2 : mean ≤ g[k].below <;> by_cases a3 : 0 < g[k].ticks <;> by_cases a4 : g[k].ticks ≤ ins <;> simp [hx, h, h', hw, a1, a2, a3, a4]
theorem rhas_loop (l : List Int) (v : Int) (hb : l.length ≤ 9223372036854775807) : ∀ (n i : Nat), i ≤ l.length → l.length - i < n →
    L_ref38_has 2 n ⟨[(0, .sl (l.map eI)), (1, I v), (4, .any), (5, I i)], []⟩ =
      if inL v (l.drop i) = true then some (.ret, ⟨[(0, .any), (1, .any), (4, B true), (5, .any)], []⟩)
      else some (.ex 0, ⟨[(0, .any), (1, .any), (4, .any), (5, .any)], []⟩)
  | 0, i, _, hn => by omega
  | n + 1, i, hi, hn => by
    rw [L_ref38_has_succ, R_ref38_has_eq]
    by_cases h : i < l.length
    · have h1 := List.getElem?_eq_getElem h
      have h3 : (i : Int) < l.length := by omega
      have hw := wrapN (n := i) (by omega)
      have ih := rhas_loop l v hb n (i + 1) (by omega) (by omega)
      simp only [Int.natCast_add, Int.natCast_one] at ih
      rw [List.drop_eq_getElem_cons h, inL]
      by_cases hq : v = l[i]
      · simp [h1, h3, hw, ← hq]
      · have hq' : ¬ l[i] = v := fun e => hq e.symm
        simp [h1, h3, hw, hq, hq', ih]
    · have h3 : ¬ (i : Int) < l.length := by omega
      have h4 : l.drop i = [] := List.drop_of_length_le (by omega)
      simp [h3, h4, inL]
theorem rhas_run (l : List Int) (v : Int) (hb : l.length ≤ 9223372036854775807) : F_ref38_has [.sl (l.map eI), I v] = some (B (inL v l)) := by
  rw [F_ref38_has_eq]
  have ih := rhas_loop l v hb bigL 0 (by omega) (by have := bigL_ge; omega)
  simp at ih
  simp [ih]
theorem rdried_loop (k : Kl) (t d : Int) (fan : Bool) (hb : k.items.length ≤ 1000000) : ∀ (n i : Nat) (r a : List Itm), k.items.drop i = r → r.length < n → a.length ≤ i →
    L_ref38_dried 3 n ⟨[(0, .any), (1, .any), (2, B fan), (3, .ptr 3 0), (4, .ptr 4 0), (6, .any), (7, .row 7), (8, I i), (9, .any)], [(3, .box 75 (eK k)), (4, .box 32 [I t, I d]), (7, .row 73 4 true (a.map eT))]⟩ =
      some (.ex 0, ⟨[(0, .any), (1, .any), (2, .any), (3, .any), (4, .any), (6, .any), (7, .row 7), (8, .any), (9, .any)], [(7, .row 73 4 true ((a ++ dryL k.w t d fan r).map eT))]⟩)
  | 0, _, _, _, _, hn, _ => by omega
  | n + 1, i, [], a, hr, hn, ha => by
    rw [L_ref38_dried_succ, R_ref38_dried_eq]
    simp [dn hr, dryL]
  | n + 1, i, x :: r, a, hr, hn, ha => by
    rw [L_ref38_dried_succ, R_ref38_dried_eq]
    obtain ⟨h1, h3, hr', hi⟩ := dc (enc := eT) hr
    have hw := wrapN (n := i) (by omega)
    have ht := rtick_run x.cel k.w x.th t d fan
    have ih := rdried_loop k t d fan hb n (i + 1) r (a ++ [⟨x.th, tick x.cel k.w x.th t d fan⟩]) hr' (by simp at hn; omega) (by simp; omega)
    have h2 : (a.length + 1) * 33 ≤ 140737488355328 := by omega
    have hd : (a ++ [(⟨x.th, tick x.cel k.w x.th t d fan⟩ : Itm)]) ++ dryL k.w t d fan r = a ++ dryL k.w t d fan (x :: r) := by simp [dryL]
    rw [hd] at ih
    generalize a ++ dryL k.w t d fan (x :: r) = out at ih ⊢
    simp at ih ht
    simp [h1, h3, hw, ih, ht, h2]
theorem rdried_run (k : Kl) (t d : Int) (fan : Bool) (hb : k.items.length ≤ 1000000) : F_ref38_dried [.agg (eK k), .agg [I t, I d], B fan] = some (.own true ((dryL k.w t d fan k.items).map eT)) := by
  rw [F_ref38_dried_eq]
  have ih := rdried_loop k t d fan hb bigL 0 k.items [] rfl (by have := bigL_ge; omega) (by simp)
  simp at ih
  simp [ih]
theorem rsteep_loop (k : Kl) (l : List Itm) (hl : l.length = k.items.length) (hb : l.length ≤ 1000000) : ∀ (n i : Nat) (r q : List Itm), l.drop i = r → k.items.drop i = q → r.length < n →
    L_ref38_steep 2 n ⟨[(0, .any), (1, .sl (l.map eT)), (2, .ptr 2 0), (4, .any), (5, I i), (6, .any)], [(2, .box 75 (eK k))]⟩ =
      if steepL k.w.grad r q = true then some (.ret, ⟨[(0, .any), (1, .any), (2, .any), (4, B true), (5, .any), (6, .any)], []⟩) else some (.ex 0, ⟨[(0, .any), (1, .any), (2, .any), (4, .any), (5, .any), (6, .any)], []⟩)
  | 0, _, _, _, _, _, hn => by omega
  | n + 1, i, [], q, hr, hq, hn => by
    rw [L_ref38_steep_succ, R_ref38_steep_eq]
    simp [dn hr, steepL]
  | n + 1, i, x :: r, [], hr, hq, hn => by
    have := List.drop_eq_nil_iff.1 hq
    obtain ⟨_, _, _, hi⟩ := dc (enc := eT) hr
    omega
  | n + 1, i, x :: r, y :: q, hr, hq, hn => by
    rw [L_ref38_steep_succ, R_ref38_steep_eq]
    obtain ⟨h1, h3, hr', hi⟩ := dc (enc := eT) hr
    obtain ⟨k1, k3, hq', ki⟩ := dc (enc := eT) hq
    have hw := wrapN (n := i) (by omega)
    have ih := rsteep_loop k l hl hb n (i + 1) r q hr' hq' (by simp at hn; omega)
    have g1 := rgrad_run x.cel
    have g2 := rgrad_run y.cel
    simp at ih g1 g2
    by_cases a1 : k.w.grad < grad x.cel
    · by_cases a2 : grad y.cel < grad x.cel
      · simp [h1, h3, k1, k3, hw, ih, g1, g2, steepL, a1, a2]
      · simp [h1, h3, k1, k3, hw, ih, g1, g2, steepL, a1, a2]
    · simp [h1, h3, k1, k3, hw, ih, g1, g2, steepL, a1]
theorem rsteep_run (k : Kl) (l : List Itm) (hl : l.length = k.items.length) (hb : l.length ≤ 1000000) : F_ref38_steep [.agg (eK k), .sl (l.map eT)] = some (B (steepL k.w.grad l k.items)) := by
  rw [F_ref38_steep_eq]
  have ih := rsteep_loop k l hl hb bigL 0 l k.items rfl rfl (by have := bigL_ge; omega)
  simp at ih
  cases h : steepL k.w.grad l k.items <;> simp [ih, h]
theorem rtickDone_run (k : Kl) (f : List Int) (h : k.stages.length ≤ k.stage) : F_ref38_Tick [.agg (eK k), .sl (f.map eI)] = some (.tup [.agg (eK k), B false]) := by
  have d := rdone_run k
  rw [decide_eq_true h] at d
  simp at d
  rw [F_ref38_Tick_eq]; simp [d]
theorem rtickC_run (k : Kl) (f : List Int) (hs : k.stage < k.stages.length) (hg : k.stages.length ≤ 1000) (hb : k.items.length ≤ 1000000) (t d : Int) (st : Bool)
    (hn : F_ref35_Next [.agg [I k.t, I k.d], .agg [I (tgtT k), I (tgtD k)], I k.ramp, .sl (f.map eI)] = some (.agg [I t, I d])) (hf : F_ref38_has [.sl (f.map eI), I 2] = some (B st)) :
    F_ref38_Tick [.agg (eK k), .sl (f.map eI)] =
      some (.tup [.agg (cK (tickC k t d st) (.sl (k.stages.map eSg)) (.own true ((tickC k t d st).items.map eT))), B (!decide (k.stages.length ≤ (tickC k t d st).stage))]) := by
  have h1 := rdone_run k
  rw [decide_eq_false (by omega)] at h1
  have h2 := rtarget_run k.name k.ramp k.w k.stage k.stages hs
  rw [← stgK_eq hs] at h2
  have e1 : (if k.w.temp < (stgK k).temp then k.w.temp else (stgK k).temp) = tgtT k := rfl
  have e2 : (if k.w.dep < (stgK k).dep then k.w.dep else (stgK k).dep) = tgtD k := rfl
  rw [e1, e2] at h2
  have d0 := rdried_run ⟨k.name, k.ramp, k.stages, k.w, k.items, t, d, k.stage, k.ins, k.ticks, k.held⟩ t d false hb
  have d1 := rdried_run ⟨k.name, k.ramp, k.stages, k.w, k.items, t, d, k.stage, k.ins, k.ticks, k.held⟩ t d true hb
  have s1 := rsteep_run ⟨k.name, k.ramp, k.stages, k.w, k.items, t, d, k.stage, k.ins, k.ticks, k.held⟩ (dryL k.w t d true k.items) (by simp) (by simpa using hb)
  have hl : ∀ fan, (dryL k.w t d fan k.items).length ≤ 1000000 := fun fan => by simpa using hb
  have m1 := fun fan held => rmeanK_run ⟨k.name, k.ramp, k.stages, k.w, dryL k.w t d fan k.items, t, d, k.stage, IntKind.i64.wrap (k.ins + 1), IntKind.i64.wrap (k.ticks + 1), held⟩ (hl fan)
  have n1 := fun mean => rends_run k.name k.ramp k.stage k.stages hs hg (IntKind.i64.wrap (k.ins + 1)) mean
  rw [← stgK_eq hs] at n1
  have f1 := fun fan held (sg : Nat) ins => rdone_run ⟨k.name, k.ramp, k.stages, k.w, dryL k.w t d fan k.items, t, d, sg, ins, IntKind.i64.wrap (k.ticks + 1), held⟩
  have f2 := fun fan held ins => f1 fan held (k.stage + 1) ins
  unfold tickC itsK holdK
  rw [F_ref38_Tick_eq]
  simp at h1 h2 d0 d1 s1 m1 f1 f2
  cases st
  · cases hst : steepL k.w.grad (dryL k.w t d true k.items) k.items
    · rw [hst] at s1
      cases he : endsG (stgK k) (IntKind.i64.wrap (k.ins + 1)) (meanL (dryL k.w t d true k.items))
      · simp [h1, h2, hn, hf, d0, d1, s1, m1, n1, f1, he]
      · simp [h1, h2, hn, hf, d0, d1, s1, m1, n1, f2, he]
    · rw [hst] at s1
      cases he : endsG (stgK k) (IntKind.i64.wrap (k.ins + 1)) (meanL (dryL k.w t d false k.items))
      · simp [h1, h2, hn, hf, d0, d1, s1, m1, n1, f1, he]
      · simp [h1, h2, hn, hf, d0, d1, s1, m1, n1, f2, he]
  · cases he : endsG (stgK k) (IntKind.i64.wrap (k.ins + 1)) (meanL (dryL k.w t d false k.items))
    · simp [h1, h2, hn, hf, d0, d1, s1, m1, n1, f1, he]
    · simp [h1, h2, hn, hf, d0, d1, s1, m1, n1, f2, he]
theorem rtick'_run (k : Kl) (f : List Int) (hfl : f.length ≤ 9223372036854775807) (hs : k.stage < k.stages.length) (hg : k.stages.length ≤ 1000) (hb : k.items.length ≤ 1000000) :
    F_ref38_Tick [.agg (eK k), .sl (f.map eI)] =
      some (.tup [.agg (cK (tickK k f) (.sl (k.stages.map eSg)) (.own true ((tickK k f).items.map eT))), B (!decide (k.stages.length ≤ (tickK k f).stage))]) :=
  rtickC_run k f hs hg hb _ _ _ (rnext_run k.t k.d (tgtT k) (tgtD k) k.ramp f hfl) (rhas_run f 2 hfl)
end Go.Proofs.YtdefohgkniglpaaGreatDoor
