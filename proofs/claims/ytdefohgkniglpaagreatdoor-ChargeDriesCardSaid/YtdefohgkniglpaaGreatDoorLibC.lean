/-
  What the library's functions slices.Sort and slices.Compact do to a row of numbers, as contracts at this program; the listed package variable's cells.
-/
import Derived.Test.YtdefohgkniglpaaGreatDoorAbs3
import Derived.Test.YtdefohgkniglpaaGreatDoorRows
import Derived.Test.YtdefohgkniglpaaGreatDoorShelf
namespace Go.Proofs.YtdefohgkniglpaaGreatDoor
set_option linter.unusedSimpArgs false
set_option linter.unusedVariables false
open Go Go.Abs
@[simp] noncomputable def gl (g : Nat) : Option (List D) := if g = 0 then some [.x (.bool false), .x (.bool false), .x (.bool true), .x (.bool false)] else none
theorem ent_of {f : FuncId} {fn : Func} (hf : Tryz.prog.funcs[f]? = some fn) (hb : fn.body.isNone = false) (hname : (fn.name == "runtime.NumGoroutine") = false) (args : Array Value) (w : World) : (callFunc f args).run Tryz.prog w = .ok (.enter f args) w := by
  have hn : ¬ fn.name = "runtime.NumGoroutine" := by simpa using hname
  have hb' : ¬ fn.body = none := fun e => by rw [e] at hb; cases hb
  simp [callFunc, hf, hn, hb']
theorem CE_sortI (hs : List (Nat × O)) (ds : List D) (r : D) (hs' : List (Nat × O)) (h : E_sortI hs ds = some (r, hs')) : ContractE Tryz.prog gl 36 hs ds r hs' :=
  CE_sortI_of (ent_of Tryz.func36 (by kernel_rfl) (by kernel_rfl)) Tryz.slices_Sort_int Tryz.slices_Sort_int_none hs ds r hs' h
theorem CE_compactI (hs : List (Nat × O)) (ds : List D) (r : D) (hs' : List (Nat × O)) (h : E_compactI hs ds = some (r, hs')) : ContractE Tryz.prog gl 37 hs ds r hs' :=
  CE_compactI_of (ent_of Tryz.func37 (by kernel_rfl) (by kernel_rfl)) Tryz.slices_Compact_int Tryz.slices_Compact_int_empty hs ds r hs' h
end Go.Proofs.YtdefohgkniglpaaGreatDoor
