/-
  The charge's Dry, run abstractly.
-/
import Derived.Test.YtdefohgkniglpaaGreatDoorChB
namespace Go.Proofs.YtdefohgkniglpaaGreatDoor
set_option linter.unusedSimpArgs false
set_option linter.unusedVariables false
open Go Go.Abs
set_option maxHeartbeats 16000000
set_option maxRecDepth 100000
theorem dryF_loop (l : List Bd) (w : Spc) (nm : ByteArray) (ramp : Int) (g : List Stg) (fs : List Flt) (ticks : Int) (hf : fs.length ≤ 1000000) : ∀ (n i : Nat) (r : List Flt), fs.drop i = r → r.length < n →
    L_charge_Dry 7 n ⟨[(0, .sl (l.map eBd)), (1, .any), (2, .any), (3, .sl (fs.map eFl)), (4, I ticks), (6, .ptr 6 0), (7, .ptr 7 0), (10, .any), (11, .ptr 11 0), (12, .any), (13, .any), (15, .any), (16, .any), (18, .any), (19, .any), (20, .any), (21, .any), (37, .sl (fs.map eFl)), (38, I fs.length), (39, I i), (72, .any), (73, .any), (74, .any)], [(6, .box 24 (eS w)), (7, .box 27 [S nm, I ramp, .sl (g.map eSg)]), (11, .box 34 [I 0, I 0, I 0, I 0, I 0, I 0])]⟩ =
      if checkF r = 0 then some (.ex 0, ⟨[(0, .sl (l.map eBd)), (1, .any), (2, .any), (3, .sl (fs.map eFl)), (4, I ticks), (6, .ptr 6 0), (7, .ptr 7 0), (10, .any), (11, .ptr 11 0), (12, .any), (13, .any), (15, .any), (16, .any), (18, .any), (19, .any), (20, .any), (21, .any), (37, .any), (38, .any), (39, .any), (72, .any), (73, .any), (74, .any)], [(6, .box 24 (eS w)), (7, .box 27 [S nm, I ramp, .sl (g.map eSg)]), (11, .box 34 [I 0, I 0, I 0, I 0, I 0, I 0])]⟩)
      else some (.ret, ⟨[(0, .any), (1, .any), (2, .any), (3, .any), (4, .any), (6, .any), (7, .any), (10, .emp), (11, .ptr 11 0), (12, I (checkF r)), (13, .any), (15, .any), (16, .any), (18, .any), (19, .any), (20, .any), (21, .any), (37, .any), (38, .any), (39, .any), (72, .any), (73, .any), (74, .any)], [(11, .box 34 [I 0, I 0, I 0, I 0, I 0, I 0])]⟩)
  | 0, _, _, _, hn => by omega
  | n + 1, i, [], hr, hn => by
    rw [L_charge_Dry_succ, R_charge_Dry_eq]
    simp [dn hr, checkF]
  | n + 1, i, x :: r, hr, hn => by
    rw [L_charge_Dry_succ, R_charge_Dry_eq]
    obtain ⟨h1, h3, hr', hi⟩ := dc (enc := eFl) hr
    have hw := wrapN (n := i) (by omega)
    have ih := dryF_loop l w nm ramp g fs ticks hf n (i + 1) r hr' (by simp at hn; omega)
    simp at ih
    by_cases a1 : x.kind < 1
    · simp [h1, h3, checkF, a1]
    by_cases a2 : 3 < x.kind
    · simp [h1, h3, checkF, a1, a2]
    by_cases a3 : x.a < 0
    · simp [h1, h3, checkF, a1, a2, a3]
    by_cases a4 : x.b ≤ x.a
    · simp [h1, h3, checkF, a1, a2, a3, a4]
    by_cases a5 : 20000 < x.b
    · simp [h1, h3, checkF, a1, a2, a3, a4, a5]
    simp [h1, h3, checkF, a1, a2, a3, a4, a5, hw, ih]
theorem dryI_loop (l : List Bd) (w : Spc) (nm : ByteArray) (ramp : Int) (g : List Stg) (fs : List Flt) (ticks : Int) (hl : l.length ≤ 1000000) (hok : ∀ b ∈ l, okBd b) : ∀ (n i : Nat) (r : List Bd) (a : List Itm), l.drop i = r → r.length < n → a.length ≤ i →
    L_charge_Dry 16 n ⟨[(0, .sl (l.map eBd)), (1, .any), (2, .any), (3, .sl (fs.map eFl)), (4, I ticks), (6, .ptr 6 0), (7, .ptr 7 0), (10, .any), (11, .ptr 11 0), (12, .any), (13, .any), (15, .any), (16, .row 16), (18, .any), (19, .any), (20, .any), (21, .any), (37, .any), (38, .any), (39, .any), (72, .sl (l.map eBd)), (73, I l.length), (74, I i)], [(6, .box 24 (eS w)), (7, .box 27 [S nm, I ramp, .sl (g.map eSg)]), (11, .box 34 [I 0, I 0, I 0, I 0, I 0, I 0]), (16, .row 96 4 true (a.map eT))]⟩ =
      some (.ex 2, ⟨[(0, .sl (l.map eBd)), (1, .any), (2, .any), (3, .sl (fs.map eFl)), (4, I ticks), (6, .ptr 6 0), (7, .ptr 7 0), (10, .any), (11, .ptr 11 0), (12, .any), (13, .any), (15, .any), (16, .row 16), (18, .any), (19, .any), (20, .any), (21, .any), (37, .any), (38, .any), (39, .any), (72, .any), (73, .any), (74, .any)], [(6, .box 24 (eS w)), (7, .box 27 [S nm, I ramp, .sl (g.map eSg)]), (11, .box 34 [I 0, I 0, I 0, I 0, I 0, I 0]), (16, .row 96 4 true ((a ++ r.map itemB).map eT))]⟩)
  | 0, _, _, _, _, hn, _ => by omega
  | n + 1, i, [], a, hr, hn, ha => by
    rw [L_charge_Dry_succ, R_charge_Dry_eq]
    simp [dn hr]
  | n + 1, i, x :: r, a, hr, hn, ha => by
    rw [L_charge_Dry_succ, R_charge_Dry_eq]
    obtain ⟨h1, h3, hr', hi⟩ := dc (enc := eBd) hr
    have hw := wrapN (n := i) (by omega)
    have ht := thick_run (hok x (List.mem_of_mem_drop (hr ▸ List.mem_cons_self : x ∈ l.drop i)))
    have ih := dryI_loop l w nm ramp g fs ticks hl hok n (i + 1) r (a ++ [itemB x]) hr' (by simp at hn; omega) (by simp; omega)
    have h2 : (a.length + 1) * 33 ≤ 140737488355328 := by omega
    have e : (a ++ [itemB x]) ++ r.map itemB = a ++ (x :: r).map itemB := by simp
    rw [e] at ih
    generalize a ++ (x :: r).map itemB = out at ih ⊢
    simp [itemB] at ih ht
    simp [h1, h3, hw, ht, h2, ih]
theorem dryGood_run (g : Gv) (hl : g.l.length ≤ 1000000) (hok : ∀ b ∈ g.l, okBd b) (hd : ∀ b ∈ g.l, b.dfs.length ≤ 1000000) (hf : g.fs.length ≤ 1000000) (h : errD g = 0) :
    F_charge_Dry [.sl (g.l.map eBd), .agg (eS g.w), .agg [S g.nm, I g.ramp, .sl (g.sg.map eSg)], .sl (g.fs.map eFl), I g.ticks] = some (.tup [.own false ((outB g).map eBd), .agg (eRn (rnM g)), I 0]) := by
  obtain ⟨e1, e2, e3⟩ := errD_ok h
  obtain ⟨k1, k2, _⟩ := checkCh_new e1
  have h1 := checkCh_run g.l g.w g.nm g.ramp g.sg hl hok
  rw [e1] at h1
  have i7 := dryF_loop g.l g.w g.nm g.ramp g.sg g.fs g.ticks hf bigL 0 g.fs rfl (by have := bigL_ge; omega)
  rw [if_pos e3] at i7
  have i16 := dryI_loop g.l g.w g.nm g.ramp g.sg g.fs g.ticks hl hok bigL 0 g.l [] rfl (by have := bigL_ge; omega) (by simp)
  have hn := newGood_run g.nm g.ramp g.sg g.w (g.l.map itemB) k1
  obtain ⟨q, hr⟩ := run_run (kil g) g.fs hf g.ticks e2.1 e2.2 (inv_kil h)
  have ei : runM g.fs g.ticks.toNat 0 (firstR (kil g)) = rnM g := rfl
  rw [ei] at hr
  have hlen := rnM_len h
  have it := items_run (rnM g).k (by omega)
  have es : (rnM g).k.stages = g.sg := (run_same (fs := g.fs) g.ticks.toNat 0 (firstR (kil g)) (inv_kil h)).1
  have dr := dried'_run g.l (rnM g).k.items hlen.symm (by omega) hl hd
  have a1 : ¬ g.ticks < 0 := by omega
  have a2 : ¬ 20000 < g.ticks := by omega
  have a3 : 32 * (g.l.length : Int) ≤ 281474976710656 := by omega
  have a4 : (g.l.length : Int) ≤ 1000000000000000000 := by omega
  rw [F_charge_Dry_eq]
  unfold outB
  simp only [eK_eq, es] at it
  unfold kil at hr
  generalize rnM g = R at *
  generalize driedM g.l R.k.items = out at *
  simp only [List.nil_append] at i16
  generalize g.l.map itemB = its at *
  simp [newK] at hn hr it i7 i16 h1 dr
  cases q <;> simp at hr <;> simp [h1, a1, a2, i7, i16, a3, a4, hn, hr, it, dr]
theorem dryBad_run (g : Gv) (hl : g.l.length ≤ 1000000) (hok : ∀ b ∈ g.l, okBd b) (hf : g.fs.length ≤ 1000000) (h : ¬ errD g = 0) :
    F_charge_Dry [.sl (g.l.map eBd), .agg (eS g.w), .agg [S g.nm, I g.ramp, .sl (g.sg.map eSg)], .sl (g.fs.map eFl), I g.ticks] = some (.tup [.own true [], .agg [I 0, I 0, I 0, I 0, I 0, I 0], I (errD g)]) := by
  have h1 := checkCh_run g.l g.w g.nm g.ramp g.sg hl hok
  have i7 := dryF_loop g.l g.w g.nm g.ramp g.sg g.fs g.ticks hf bigL 0 g.fs rfl (by have := bigL_ge; omega)
  rw [F_charge_Dry_eq]
  unfold errD at h ⊢
  simp at h1 i7
  by_cases a0 : checkCh g.l g.w g.nm g.ramp g.sg = 0
  · by_cases a1 : g.ticks < 0
    · simp [h1, a0, a1]
    · by_cases a2 : 20000 < g.ticks
      · simp [h1, a0, a1, a2]
      · have a3 : ¬ checkF g.fs = 0 := by simpa [a0, a1, a2] using h
        simp [a3] at i7
        simp [h1, a0, a1, a2, i7]
  · simp [h1, a0]
end Go.Proofs.YtdefohgkniglpaaGreatDoor
