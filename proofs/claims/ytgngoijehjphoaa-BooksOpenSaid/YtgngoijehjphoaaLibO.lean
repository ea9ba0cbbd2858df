/-
  What the library's function maps.Copy does, as a contract at this program.
-/
import Derived.Test.YtgngoijehjphoaaMaps
import Derived.Test.YtgngoijehjphoaaRows
import Derived.Test.YtgngoijehjphoaaShelf
namespace Go.Proofs.Ytgngoijehjphoaa
set_option linter.unusedSimpArgs false
set_option linter.unusedVariables false
open Go Go.Abs
@[simp] def gl (_ : Nat) : Option (List D) := none
theorem ent_of {f : FuncId} {fn : Func} (hf : Try.prog.funcs[f]? = some fn) (hb : fn.body.isNone = false) (hname : (fn.name == "runtime.NumGoroutine") = false) (args : Array Value) (w : World) : (callFunc f args).run Try.prog w = .ok (.enter f args) w := by
  have hn : ¬ fn.name = "runtime.NumGoroutine" := by simpa using hname
  have hb' : ¬ fn.body = none := fun e => by rw [e] at hb; cases hb
  simp [callFunc, hf, hn, hb']
theorem E_copy_eq (es fs : Es) : E_copy [(1000, .mp es)] [.mp 1000, .mpv fs] = if allK es = true ∧ allK fs = true ∧ es.length + fs.length ≤ maxLen then some (.tup [], [(1000, .mp (mergeM es fs))]) else none := Eq.trans rfl rfl
theorem CE_copy (hs : List (Nat × O)) (ds : List D) (r : D) (hs' : List (Nat × O)) (h : E_copy hs ds = some (r, hs')) : ContractE Try.prog gl 22 hs ds r hs' :=
  CE_copy_of (kt := 9) (ent_of Try.func22 (by kernel_rfl) (by kernel_rfl)) Try.underlying9 (fun bd bs nd ns Dd Ds w h1 h2 h3 h4 => Try.maps_Copy RV bd bs nd ns Dd Ds w h1 h2 h3 h4) hs ds r hs' h
end Go.Proofs.Ytgngoijehjphoaa
