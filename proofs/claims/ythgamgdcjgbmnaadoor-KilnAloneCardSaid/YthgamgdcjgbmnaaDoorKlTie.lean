/-
  What the listed package variable gives the walks: its cells.
-/
import Derived.Test.YthgamgdcjgbmnaaDoorGen
import Derived.Test.YthgamgdcjgbmnaaDoorTie
import Derived.ProofKit
import Derived.LaidMore
import Derived.OpenShut
import Derived.Stop.Joined
import Derived.SevenTiedAt
namespace Go.Proofs.YthgamgdcjgbmnaaDoor
set_option linter.unusedSimpArgs false
set_option linter.unusedVariables false
open Go Go.Abs Go.ChangeShapes Go.WideShapes Go.ChangeAt Go.WideMaps Go.WideElems Go.RowKit
set_option maxRecDepth 100000
theorem door_met (os : Os) (args : Array Value) : laidMetH Tryd.prog [("sawmill/kiln.stillAir", Rows.laid_sawmill_kiln_stillAir)] ((World.doorLaid Tryd.prog 400 os).forCall (fun _ _ => 0) ⟨#[], args, []⟩).memory :=
  laidMetH_of_parts3 (fuel := 8) (laidMet_of_run' 8 (by kernel_rfl) (by kernel_rfl)) (by kernel_rfl) (by kernel_rfl)
theorem gStill : Tryd.prog.globalNamed "sawmill/kiln.stillAir" = some 0 := by kernel_rfl
theorem tStill : (Tryd.prog.globals[0]?).map (·.type) = some 88 := by kernel_rfl
theorem globs_of {W : World} (h : laidMetH Tryd.prog [("sawmill/kiln.stillAir", Rows.laid_sawmill_kiln_stillAir)] W) : Globs gl W (fun _ => True) (fun _ => False) := by
  rw [MakeChecks.laidMetH_plain _ _ _ (by kernel_rfl)] at h
  obtain ⟨ps, ⟨g0, t0, cs0, f0, p0, q0, hg0, ht0, hv0, hd0, _, _⟩, _, _⟩ := h
  obtain rfl := Option.some.inj (gStill.symm.trans hg0)
  obtain rfl := Option.some.inj (tStill.symm.trans ht0)
  have c1 : Tryd.prog.cellsOf 4 = 1 := by kernel_rfl
  obtain ⟨xs, m1, rfl, hx1, hlen, hn, hel⟩ := DataW.trod_array Tryd.underlying88 hd0
  have e0 := hel 0 (by decide)
  have e1 := hel 1 (by decide)
  have e2 := hel 2 (by decide)
  have e3 := hel 3 (by decide)
  simp only [Prod.mk.injEq, DataW.agg.injEq] at hx1
  match xs, hn, hx1, e0, e1, e2, e3 with
  | [x0, x1, x2, x3], _, hx1, e0, e1, e2, e3 =>
    simp only [List.map_cons, List.map_nil, List.cons.injEq, Rows.laid_sawmill_kiln_stillAir] at hx1
    obtain ⟨b0, a0, d0⟩ := DataW.trod_bool Tryd.underlying4 (show DataW.trod _ Tryd.prog W 0 _ false m1 4 _ = some x0 from e0)
    obtain ⟨b1, a1, d1⟩ := DataW.trod_bool Tryd.underlying4 (show DataW.trod _ Tryd.prog W 0 _ false m1 4 _ = some x1 from e1)
    obtain ⟨b2, a2, d2⟩ := DataW.trod_bool Tryd.underlying4 (show DataW.trod _ Tryd.prog W 0 _ false m1 4 _ = some x2 from e2)
    obtain ⟨b3, a3, d3⟩ := DataW.trod_bool Tryd.underlying4 (show DataW.trod _ Tryd.prog W 0 _ false m1 4 _ = some x3 from e3)
    rw [d0, d1, d2, d3] at hx1
    simp at hx1
    obtain ⟨⟨rfl, rfl, rfl, rfl⟩, _⟩ := hx1
    rw [c1] at a0 a1 a2 a3
    obtain ⟨cl⟩ := cs0
    have hcell := fun off => World.var?_cell hg0 hv0 off
    have hc4 : cl.length = 4 := by
      have : Tryd.prog.cellsOf 88 = 4 := by kernel_rfl
      simpa [this] using hlen
    match cl, hc4 with
    | [y0, y1, y2, y3], _ =>
      simp at a0 a1 a2 a3
      subst a0 a1 a2 a3
      intro g cs hg
      simp [gl] at hg
      obtain ⟨rfl, rfl⟩ := hg
      have hlt : 0 < W.heap.size := by
        have := hcell 0
        simp at this
        unfold World.cell? at this
        rcases Nat.eq_zero_or_pos W.heap.size with h0 | h0
        · rw [Array.getElem?_eq_none (by omega)] at this
          simp at this
        · exact h0
      have hall : ∃ (o : Array Value) (t : TypeId) (m : Nat × Nat), W.heap[0]? = some (.cells o t m) ∧ o.size = 4 := by
        have hv := hv0
        unfold World.var? at hv
        simp only [gStill, Option.bind_some] at hv
        split at hv
        · rename_i o ty m hh
          injection hv with hv
          exact ⟨o, ty, m, hh, by rw [hv]; rfl⟩
        · cases hv
      refine ⟨.elt trivial hlt (by simp [isCell]) (fun j hj => ?_) (fun j d u hd hu => ?_), trivial, hlt, hall⟩
      · have := hcell j
        have e : (Addr.mk 0 0 none).add j = ⟨0, j, none⟩ := by simp [Addr.add]; exact fun h => h.symm
        rw [e, this]
        match j, hj with
        | 0, _ => exact ⟨_, rfl, rfl⟩
        | 1, _ => exact ⟨_, rfl, rfl⟩
        | 2, _ => exact ⟨_, rfl, rfl⟩
        | 3, _ => exact ⟨_, rfl, rfl⟩
      · have := hcell j
        have e : (Addr.mk 0 0 none).add j = ⟨0, j, none⟩ := by simp [Addr.add]; exact fun h => h.symm
        rw [e, this] at hu
        match j, hd, hu with
        | 0, hd, hu => cases hd; cases hu; exact .x _
        | 1, hd, hu => cases hd; cases hu; exact .x _
        | 2, hd, hu => cases hd; cases hu; exact .x _
        | 3, hd, hu => cases hd; cases hu; exact .x _
end Go.Proofs.YthgamgdcjgbmnaaDoor
