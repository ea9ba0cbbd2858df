/-
  What the library's functions slices.Sort, slices.Compact, strconv.Itoa and strings.Join do, as contracts at this program; the listed package variable's cells.
-/
import Derived.Test.YtldekjlihfidlaaGreatDoorItoa
import Derived.Test.YtldekjlihfidlaaGreatDoorRows
import Derived.Test.YtldekjlihfidlaaGreatDoorShelf
namespace Go.Proofs.YtldekjlihfidlaaGreatDoor
set_option linter.unusedSimpArgs false
set_option linter.unusedVariables false
open Go Go.Abs
@[simp] noncomputable def gl (g : Nat) : Option (List D) := if g = 0 then some powD else none
theorem ent_of {f : FuncId} {fn : Func} (hf : Tryz.prog.funcs[f]? = some fn) (hb : fn.body.isNone = false) (hname : (fn.name == "runtime.NumGoroutine") = false) (args : Array Value) (w : World) : (callFunc f args).run Tryz.prog w = .ok (.enter f args) w := by
  have hn : ¬ fn.name = "runtime.NumGoroutine" := by simpa using hname
  have hb' : ¬ fn.body = none := fun e => by rw [e] at hb; cases hb
  simp [callFunc, hf, hn, hb']
theorem CE_sortS (hs : List (Nat × O)) (ds : List D) (r : D) (hs' : List (Nat × O)) (h : E_sortS hs ds = some (r, hs')) : ContractE Tryz.prog gl 29 hs ds r hs' :=
  CE_sortS_of (ent_of Tryz.func29 (by kernel_rfl) (by kernel_rfl)) Tryz.slices_Sort_string Tryz.slices_Sort_string_none hs ds r hs' h
theorem CE_compactS (hs : List (Nat × O)) (ds : List D) (r : D) (hs' : List (Nat × O)) (h : E_compactS hs ds = some (r, hs')) : ContractE Tryz.prog gl 30 hs ds r hs' :=
  CE_compactS_of (ent_of Tryz.func30 (by kernel_rfl) (by kernel_rfl)) Tryz.slices_Compact_string Tryz.slices_Compact_string_empty hs ds r hs' h
theorem gPow : Tryz.prog.globalNamed "internal/strconv.uint64pow10" = some 0 := by kernel_rfl
theorem C_itoa (ds : List D) (r : D) (h : F_itoa ds = some r) : Contract Tryz.prog gl 32 ds r :=
  C_itoa_of (ent_of Tryz.func32 (by kernel_rfl) (by kernel_rfl)) gPow rfl Tryz.strconv_Itoa ds r h
theorem C_join (ds : List D) (r : D) (h : F_join ds = some r) : Contract Tryz.prog gl 33 ds r :=
  C_join_of (ent_of Tryz.func33 (by kernel_rfl) (by kernel_rfl)) Tryz.strings_Join Tryz.strings_Join_none ds r h
end Go.Proofs.YtldekjlihfidlaaGreatDoor
