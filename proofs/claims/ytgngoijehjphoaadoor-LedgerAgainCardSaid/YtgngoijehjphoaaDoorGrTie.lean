/-
  What the listed package variables give the walks: the cells of the table of powers of ten.
-/
import Derived.Test.YtgngoijehjphoaaDoorLibL
import Derived.Test.YtgngoijehjphoaaDoorTie
import Derived.ProofKit
import Derived.LaidMore
import Derived.OpenShut
import Derived.Stop.Joined
import Derived.Stop.LaidErr
import Derived.SevenTiedAt
namespace Go.Proofs.YtgngoijehjphoaaDoor
set_option linter.unusedSimpArgs false
set_option linter.unusedVariables false
open Go Go.Abs Go.ChangeShapes Go.WideShapes Go.ChangeAt Go.WideMaps Go.WideElems Go.RowKit
set_option maxRecDepth 100000
theorem door_met (os : Os) (args : Array Value) : laidMetH Tryd.prog [("math/bits.deBruijn32tab", Rows.laid_math_bits_deBruijn32tab), ("math/bits.deBruijn64tab", Rows.laid_math_bits_deBruijn64tab), ("internal/strconv.uint64pow10", Rows.laid_internal_strconv_uint64pow10)] ((World.doorLaid Tryd.prog 400 os).forCall (fun _ _ => 0) ⟨#[], args, []⟩).memory :=
  laidMetH_of_parts3 (fuel := 8) (laidMet_of_run' 8 (by kernel_rfl) (by kernel_rfl)) (by kernel_rfl) (by kernel_rfl)
theorem tPow : (Tryd.prog.globals[0]?).map (·.type) = some 123 := by kernel_rfl
theorem globs_of {W : World} (h : laidMetH Tryd.prog [("math/bits.deBruijn32tab", Rows.laid_math_bits_deBruijn32tab), ("math/bits.deBruijn64tab", Rows.laid_math_bits_deBruijn64tab), ("internal/strconv.uint64pow10", Rows.laid_internal_strconv_uint64pow10)] W) : Globs gl W (fun _ => True) (fun _ => False) := by
  rw [MakeChecks.laidMetH_plain _ _ _ (by kernel_rfl)] at h
  have hp : laidMet Tryd.prog (("internal/strconv.uint64pow10", Lib.tabData .u64 Lib.pow10Tab) :: []) W := by
    have e : (Rows.laid_internal_strconv_uint64pow10 : DataW Unit) = Lib.tabData .u64 Lib.pow10Tab := by kernel_rfl
    rw [← e]
    exact h.tail.tail
  have t : Lib.TabIs Tryd.prog W "internal/strconv.uint64pow10" .u64 Lib.pow10Tab :=
    Lib.tabIs_of_head gPow tPow Tryd.underlying123 Tryd.underlying48 (by kernel_rfl) (by kernel_rfl) hp
  intro g cs hg
  simp only [gl] at hg
  split at hg
  · rename_i e0
    subst e0
    injection hg with hg
    subst hg
    have hv := t
    unfold Lib.TabIs World.var? at hv
    simp only [gPow, Option.bind_some] at hv
    split at hv
    · rename_i o ty m hh
      injection hv with hv
      have hlt : 0 < W.heap.size := (Array.getElem?_eq_some_iff.1 hh).1
      have hsz : o.size = powD.length := by rw [hv]; simp [powD]
      have hcell : ∀ j (hj : j < powD.length), W.cell? ((Addr.mk 0 0 none).add j) = some (.int .u64 (Lib.pow10Tab.getD j 0)) := by
        intro j hj
        have e : (Addr.mk 0 0 none).add j = ⟨0, j, none⟩ := by simp [Addr.add]; exact fun h => h.symm
        rw [e]
        exact t.cell gPow j (by simpa [powD] using hj)
      refine ⟨.elt trivial hlt (fun d hd => ?_) (fun j hj => ⟨_, hcell j hj, rfl⟩) (fun j d u hd hu => ?_), trivial, hlt, ⟨o, ty, m, hh, hsz⟩⟩
      · simp only [powD, List.mem_map] at hd
        obtain ⟨z, _, rfl⟩ := hd
        rfl
      · have hj : j < powD.length := (List.getElem?_eq_some_iff.1 hd).1
        rw [hcell j hj] at hu
        cases hu
        simp only [powD, List.getElem?_map, Option.map_eq_some_iff] at hd
        obtain ⟨z, hz, rfl⟩ := hd
        rw [List.getD_eq_getElem?_getD, hz]
        exact .x _
    · cases hv
  · cases hg
end Go.Proofs.YtgngoijehjphoaaDoor
