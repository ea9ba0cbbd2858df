/-
  What the library's functions slices.Sort, slices.Sorted, maps.Copy, maps.Keys, strconv.Itoa and strings.Join do, as contracts at this program; the listed package variable's cells.
-/
import Derived.Test.YtgngoijehjphoaaDoorItoa
import Derived.Test.YtgngoijehjphoaaDoorMaps
import Derived.Test.YtgngoijehjphoaaDoorRows
import Derived.Test.YtgngoijehjphoaaDoorShelf
namespace Go.Proofs.YtgngoijehjphoaaDoor
set_option linter.unusedSimpArgs false
set_option linter.unusedVariables false
open Go Go.Abs
@[simp] noncomputable def gl (g : Nat) : Option (List D) := if g = 0 then some powD else none
theorem ent_of {f : FuncId} {fn : Func} (hf : Tryd.prog.funcs[f]? = some fn) (hb : fn.body.isNone = false) (hname : (fn.name == "runtime.NumGoroutine") = false) (args : Array Value) (w : World) : (callFunc f args).run Tryd.prog w = .ok (.enter f args) w := by
  have hn : ¬ fn.name = "runtime.NumGoroutine" := by simpa using hname
  have hb' : ¬ fn.body = none := fun e => by rw [e] at hb; cases hb
  simp [callFunc, hf, hn, hb']
theorem CE_sortS (hs : List (Nat × O)) (ds : List D) (r : D) (hs' : List (Nat × O)) (h : E_sortS hs ds = some (r, hs')) : ContractE Tryd.prog gl 49 hs ds r hs' :=
  CE_sortS_of (ent_of Tryd.func49 (by kernel_rfl) (by kernel_rfl)) Tryd.slices_Sort_string Tryd.slices_Sort_string_none hs ds r hs' h

theorem gPow : Tryd.prog.globalNamed "internal/strconv.uint64pow10" = some 0 := by kernel_rfl
theorem C_itoa (ds : List D) (r : D) (h : F_itoa ds = some r) : Contract Tryd.prog gl 52 ds r :=
  C_itoa_of (ent_of Tryd.func52 (by kernel_rfl) (by kernel_rfl)) gPow rfl Tryd.strconv_Itoa ds r h
theorem C_join (ds : List D) (r : D) (h : F_join ds = some r) : Contract Tryd.prog gl 53 ds r :=
  C_join_of (ent_of Tryd.func53 (by kernel_rfl) (by kernel_rfl)) Tryd.strings_Join Tryd.strings_Join_none ds r h
noncomputable def F_keysL (ds : List D) : Option D := F_keys 50 ds
@[simp] theorem F_keysL_eq (es : Es) : F_keysL [.mpv es] = some (.fnm 50 es) := Eq.trans rfl rfl
noncomputable def F_sortedL (ds : List D) : Option D := F_sorted 50 ds
theorem F_sortedL_eq (es : Es) : F_sortedL [.fnm 50 es] = if allK es = true ∧ es.length * 16 ≤ 140737488355328 then some (.own true ((sortS (keysL es)).map eS)) else none := by
  simp only [F_sortedL, F_sorted, true_and]
theorem E_copy_eq (es fs : Es) : E_copy [(1000, .mp es)] [.mp 1000, .mpv fs] = if allK es = true ∧ allK fs = true ∧ es.length + fs.length ≤ maxLen then some (.tup [], [(1000, .mp (mergeM es fs))]) else none := Eq.trans rfl rfl
theorem CE_copy (hs : List (Nat × O)) (ds : List D) (r : D) (hs' : List (Nat × O)) (h : E_copy hs ds = some (r, hs')) : ContractE Tryd.prog gl 34 hs ds r hs' :=
  CE_copy_of (kt := 9) (ent_of Tryd.func34 (by kernel_rfl) (by kernel_rfl)) Tryd.underlying9 (fun bd bs nd ns Dd Ds w h1 h2 h3 h4 => Tryd.maps_Copy RV bd bs nd ns Dd Ds w h1 h2 h3 h4) hs ds r hs' h
theorem C_keys (ds : List D) (r : D) (h : F_keysL ds = some r) : Contract Tryd.prog gl 37 ds r :=
  C_keys_of (ent_of Tryd.func37 (by kernel_rfl) (by kernel_rfl)) (fun b w => (callsIn_wide (n := 5)).1 (AnyZ.keys_in Tryd.keysL Fence.wide 5 trivial rfl (some b) w)) ds r h
/-- slices.Sort's two contracts, inside the fence that asks nothing. -/
theorem sortsL (m : Nat) : AnyZ.SortsIn Tryd.prog Tryd.sortedL_ren Fence.wide m :=
  ⟨fun blk off cap ss W hH hblk hsz => callsIn_wide.2 (Tryd.slices_Sort_string blk off cap ss W hH hblk hsz), fun p cap W => callsIn_wide.2 (Tryd.slices_Sort_string_none p cap W)⟩
theorem C_sorted (ds : List D) (r : D) (h : F_sortedL ds = some r) : Contract Tryd.prog gl 36 ds r := by
  refine C_sorted_of (kt := 9) (t := 9) (ent_of Tryd.func36 (by kernel_rfl) (by kernel_rfl)) Tryd.underlying9 (fun Bm b nn D0 w hBm hm hown hmax hbytes => ?_) ds r h
  have hseq : SeqGives Fence.wide 3 Tryd.prog 50 #[.pointer (some ⟨Bm, 0, none⟩)] encStr (fun ss => ss.Perm (strKeys D0)) (Maps.size D0) w :=
    AnyZ.keys_gives (ρ := Tryd.keysL_ren) { Tryd.keysL with } Fence.wide _ trivial rfl (by omega) Bm b nn D0 w hBm hm hown
  have cS := AnyZ.sorted_in Tryd.sortedL Fence.wide 6 trivial trivial trivial trivial rfl (by omega) (sortsL _) (ent_of Tryd.func49 (by kernel_rfl) (by kernel_rfl)) 50 #[.pointer (some ⟨Bm, 0, none⟩)] trivial (ent_of Tryd.func50 (by kernel_rfl) (by kernel_rfl)) _ _ hmax hbytes w hseq
  refine ((callsIn_wide (n := 6)).1 cS).mono ?_
  rintro e w' ⟨v, ss, rfl, hp, hrow, _, hb⟩
  exact ⟨v, ss, rfl, hp, hrow, hb⟩
end Go.Proofs.YtgngoijehjphoaaDoor
