/-
  DERIVED: THE SHELF's CONTRACTS AT THIS DUMP, IN PLAIN WORDS (tools/lay-plain.mjs out of 'TryShelf.lean', which tools/lay-shelf.mjs wrote): THE SAME DECLARATIONS UNDER THE SAME NAMES: 'import', 'namespace', 'open', 'def', 'theorem' AND NOTHING ELSE: no command of the shelf's: FOR A HAND-IN. Each laying: the table of numbers ('.._ren') and one theorem, a field a fact of the dump's own or the kernel's comparison; each contract: ONE APPLICATION.
-/
import Derived.Ground.SlmpProg
import Derived.Shelf.SlMaps.Copy
import Derived.Test.YtgngoijehjphoaaProg
namespace Go.Proofs
open Go.Shelf
def Try.copyL_ren : Go.Shelf.Ren := ⟨fun | 5 => 22 | n => n, fun | 23 => 54 | 24 => 54 | 26 => 9 | 27 => 3 | 0 => 0 | 4 => 4 | n => n, fun | n => n⟩
theorem Try.copyL : Go.Proofs.SlLaysX.n5 Try.prog Try.copyL_ren := {
  mixed := by kernel_rfl
  f5 := ⟨Try.f22.name, by decide, Try.func22.trans (congrArg some (by kernel_rfl))⟩
  t0 := Try.underlying0
  a0 := Try.isAgg0
  z0 := Try.sizeOf0
  v0 := Try.zeroValue0
  t4 := Try.underlying4
  a4 := Try.isAgg4
  z4 := Try.sizeOf4
  v4 := Try.zeroValue4
  t23 := Try.underlying54
  a23 := Try.isAgg54
  z23 := Try.sizeOf54
  v23 := Try.zeroValue54
  t24 := Try.underlying54
  a24 := Try.isAgg54
  z24 := Try.sizeOf54
  v24 := Try.zeroValue54
  a26 := Try.isAgg9
  z26 := Try.sizeOf9
  a27 := Try.isAgg3
  z27 := Try.sizeOf3 }
open Go.RowKit Go.Maps in
/-- maps.Copy at two maps that are not nil. -/
theorem Try.maps_Copy {H : Type} (R : Value → Option (DataW H × List MemPlace)) (bd bs nd ns : Nat) (Dd Ds : DataW H) (w : World) (hd : w.ownsMap Try.prog 9 R bd nd Dd) (hs : w.ownsMap Try.prog 9 R bs ns Ds) (hne : bd ≠ bs) (hroom : nd + Maps.size Ds ≤ maxLen) :
    Calls Try.prog 22 #[.map (some bd), .map (some bs)] w fun e w' => e = .returned (.tuple #[]) ∧ w'.ownsMap Try.prog 9 R bd (nd + Maps.size Ds) (Lib.mergeD Dd Ds) ∧ w'.ownsMap Try.prog 9 R bs ns Ds ∧ w.grownBy w' (some bd) := AnyX.maps_Copy Try.copyL (string_keyed Try.underlying9) R bd bs nd ns Dd Ds w hd hs hne hroom
end Go.Proofs
