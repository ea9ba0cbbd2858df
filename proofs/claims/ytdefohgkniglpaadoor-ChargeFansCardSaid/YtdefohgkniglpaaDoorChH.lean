/-
  The statement Fans, run abstractly.
-/
import Derived.Test.YtdefohgkniglpaaDoorChK
namespace Go.Proofs.YtdefohgkniglpaaDoor
set_option linter.unusedSimpArgs false
set_option linter.unusedVariables false
open Go Go.Abs
set_option maxHeartbeats 16000000
set_option maxRecDepth 100000
/-! ### Fans -/
def fanG (g : Gv) : Gv := ⟨g.l, g.w, g.nm, g.ramp, g.sg, g.fs ++ [⟨2, 0, 20000⟩], g.ticks⟩
theorem fans_in {g : Gv} (he : errD (fanG g) = 0) : Fan (g.l.map (fun b => b.cel.s)) (rnM (fanG g)) := by
  obtain ⟨_, e2, _⟩ := errD_ok he
  unfold rnM
  refine run_fan _ 0 _ (fun m hm => ?_) ⟨?_, rfl⟩
  · rw [inL_iff, mem_atM]
    exact ⟨⟨2, 0, 20000⟩, by simp [fanG], by show (0 : Int) ≤ m; omega, by show (m : Int) < 20000; have : (fanG g).ticks ≤ 20000 := e2.2; omega, rfl⟩
  · show ((g.l.map itemB).map (fun x => x.cel.s)) = _
    rw [List.map_map]
    rfl
theorem fans_loop (g : Gv) (its : List Itm) (hl : g.l.length ≤ 1000000) (hlen : g.l.length = its.length) (hs : its.map (fun x => x.cel.s) = g.l.map (fun b => b.cel.s)) : ∀ (n i : Nat) (r : List Bd), g.l.drop i = r → r.length < n →
    L_law40_ChargeFans 10 n ⟨[(0, .any), (1, .ptr 1 0), (2, .any), (3, .own false ((driedM g.l its).map eBd)), (4, .any), (5, .any), (6, I i)], [(1, .box 35 [.sl (g.l.map eBd), S g.w.name, I g.w.green, I g.w.fast, I g.w.slow, I g.w.safe, I g.w.grad, I g.w.crack, I g.w.temp, I g.w.dep, I g.w.dens, I g.w.stiff, I g.w.loss, I g.w.shrink, S g.nm, I g.ramp, .sl (g.sg.map eSg), .own true ((g.fs ++ [(⟨2, 0, 20000⟩ : Flt)]).map eFl), I g.ticks])]⟩ =
      some (.ex 0, ⟨[(0, .any), (1, .any), (2, .any), (3, .any), (4, .any), (5, .any), (6, .any)], []⟩)
  | 0, _, _, _, hn => by omega
  | n + 1, i, [], hr, hn => by
    rw [L_law40_ChargeFans_succ, R_law40_ChargeFans_eq]
    have h3 : ¬ (i : Int) < (driedM g.l its).length := by rw [driedM_len _ _ hlen]; exact dn hr
    simp [h3]
  | n + 1, i, x :: r, hr, hn => by
    rw [L_law40_ChargeFans_succ, R_law40_ChargeFans_eq]
    obtain ⟨h1, h3, hr', hi⟩ := dc (enc := eBd) hr
    have hw := wrapN (n := i) (by omega)
    have ih := fans_loop g its hl hlen hs n (i + 1) r hr' (by simp at hn; omega)
    have gx : g.l[i]? = some x := by
      have := congrArg List.head? hr
      simpa [List.head?_drop] using this
    have gy : its[i]? = some its[i] := List.getElem?_eq_getElem (by omega)
    have gd := driedM_get gx gy
    have ol := driedM_len g.l its hlen
    have k1 : ((driedM g.l its).map eBd)[i]? = some (eBd (dryB x its[i])) := by rw [List.getElem?_map, gd]; rfl
    have k3 : (i : Int) < (driedM g.l its).length := by omega
    have hsi : its[i].cel.s = x.cel.s := by
      have := congrArg (fun l => l[i]?) hs
      simpa [gx, gy] using this
    generalize its[i] = y at *
    generalize driedM g.l its = out at *
    simp at ih
    simp [h1, h3, k1, k3, hw, ih, hsi, dryB]
theorem fans_law (g : Gv) (ok : okGv g) : F_law40_ChargeFans [.agg (eGv g)] = some (B true) := by
  rw [F_law40_ChargeFans_eq]
  have hl := light_run g
  simp at hl
  cases hL : lightM g
  · rw [hL] at hl
    simp [hl, awake_run]
  · rw [hL] at hl
    obtain ⟨fw, h8, _⟩ := light_of hL
    have hfs := fw.fs
    have h5 : g.fs.length * 25 ≤ 140737488355328 := by omega
    have h6 : (g.fs.length + 1) * 25 ≤ 140737488355328 := by omega
    have hfl : g.fs.all ((fun e => e.all isX) ∘ eFl) = true := by simp [isX]
    have ok2 : okGv (fanG g) := ⟨ok.l, ok.b, ok.sg, by simp [fanG]; omega, ok.ticks⟩
    by_cases he : errD (fanG g) = 0
    · have hd : F_law40_dry [.agg (eGv (fanG g))] = some (.tup [.own false ((outB (fanG g)).map eBd), .agg (eRn (rnM (fanG g))), I 0]) := by
        rw [F_law40_dry_eq]
        have d := dryGood_run (fanG g) (by have := fw.l; show g.l.length ≤ _; omega) ok.b (fun b hb => by have := fw.d b hb; omega) (by simp [fanG]; omega) he
        simp at d
        simp [d]
      have hlen : (rnM (fanG g)).k.items.length = g.l.length := rnM_len he
      have olen := driedM_len g.l (rnM (fanG g)).k.items hlen.symm
      have fan := fans_in he
      have i10 := fans_loop g (rnM (fanG g)).k.items (by omega) hlen.symm fan.s bigL 0 g.l rfl (by have := bigL_ge; omega)
      have o1 : ((driedM g.l (rnM (fanG g)).k.items).length : Int) = g.l.length := by omega
      have o2 := fan.held
      have oe : outB (fanG g) = driedM g.l (rnM (fanG g)).k.items := rfl
      rw [oe] at hd
      clear fan
      generalize driedM g.l (rnM (fanG g)).k.items = out at *
      generalize rnM (fanG g) = R at *
      simp [fanG] at hd i10
      simp [hl, h5, h6, hfl, hd, o1, o2, i10, awake_run]
    · have hd : F_law40_dry [.agg (eGv (fanG g))] = some (.tup [.own true [], .agg [I 0, I 0, I 0, I 0, I 0, I 0], I (errD (fanG g))]) := by
        rw [F_law40_dry_eq]
        have d := dryBad_run (fanG g) (by have := fw.l; show g.l.length ≤ _; omega) ok.b (by simp [fanG]; omega) he
        simp at d
        simp [d]
      generalize errD (fanG g) = e at *
      simp [fanG] at hd
      simp [hl, h5, h6, hfl, hd, he, awake_run]
theorem chargeFans_abs (xs : List D) (h : TyArgs Tryd.prog Tryd.f7.params.toList xs) : Contract Tryd.prog gl 7 xs (.x (.bool true)) := by
  simp [TyArgs] at h
  obtain ⟨d, rfl, h1⟩ := h
  obtain ⟨g, rfl, ok⟩ := tyGv h1
  exact C_law40_ChargeFans _ _ (fans_law g ok)
end Go.Proofs.YtdefohgkniglpaaDoor
