/-
  What the library's functions slices.Sort and slices.Compact do to a row of strings, as contracts at this program.
-/
import Derived.Test.YtkdmoefacgbgkaaAbs3
import Derived.Test.YtkdmoefacgbgkaaRows
import Derived.Test.YtkdmoefacgbgkaaShelf
namespace Go.Proofs.Ytkdmoefacgbgkaa
set_option linter.unusedSimpArgs false
set_option linter.unusedVariables false
open Go Go.Abs
@[simp] noncomputable def gl (_ : Nat) : Option (List D) := none
theorem ent_of {f : FuncId} {fn : Func} (hf : Try.prog.funcs[f]? = some fn) (hb : fn.body.isNone = false) (hname : (fn.name == "runtime.NumGoroutine") = false) (args : Array Value) (w : World) : (callFunc f args).run Try.prog w = .ok (.enter f args) w := by
  have hn : ¬ fn.name = "runtime.NumGoroutine" := by simpa using hname
  have hb' : ¬ fn.body = none := fun e => by rw [e] at hb; cases hb
  simp [callFunc, hf, hn, hb']
theorem CE_sortS (hs : List (Nat × O)) (ds : List D) (r : D) (hs' : List (Nat × O)) (h : E_sortS hs ds = some (r, hs')) : ContractE Try.prog gl 37 hs ds r hs' :=
  CE_sortS_of (ent_of Try.func37 (by kernel_rfl) (by kernel_rfl)) Try.slices_Sort_string Try.slices_Sort_string_none hs ds r hs' h
theorem CE_compactS (hs : List (Nat × O)) (ds : List D) (r : D) (hs' : List (Nat × O)) (h : E_compactS hs ds = some (r, hs')) : ContractE Try.prog gl 38 hs ds r hs' :=
  CE_compactS_of (ent_of Try.func38 (by kernel_rfl) (by kernel_rfl)) Try.slices_Compact_string Try.slices_Compact_string_empty hs ds r hs' h
end Go.Proofs.Ytkdmoefacgbgkaa
