/-
  The examples of the chapter; KilnBegins and KilnNone, run abstractly.
-/
import Derived.Test.YtdefohgkniglpaaGreatDoorKlE
import Derived.Test.YtdefohgkniglpaaGreatDoorKlP
namespace Go.Proofs.YtdefohgkniglpaaGreatDoor
set_option linter.unusedSimpArgs false
set_option linter.unusedVariables false
open Go Go.Abs
set_option maxHeartbeats 8000000
set_option maxRecDepth 100000
theorem nilTick_run (f : List Int) : E_kiln_Kiln_Tick [] [.x (.pointer none), .sl (f.map eI)] = some (B false, []) := by
  rw [E_kiln_Kiln_Tick_eq]; simp
theorem nilDone_run : F_kiln_Kiln_Done [.x (.pointer none)] = some (B false) := by
  rw [F_kiln_Kiln_Done_eq]; simp
theorem nilClimate_run : F_kiln_Kiln_Climate [.x (.pointer none)] = some (.agg [I 0, I 0]) := by
  rw [F_kiln_Kiln_Climate_eq]; simp
theorem nilStage_run : F_kiln_Kiln_Stage [.x (.pointer none)] = some (I 0) := by
  rw [F_kiln_Kiln_Stage_eq]; simp
theorem nilTicks_run : F_kiln_Kiln_Ticks [.x (.pointer none)] = some (.tup [I 0, I 0]) := by
  rw [F_kiln_Kiln_Ticks_eq]; simp
theorem nilItems_run : F_kiln_Kiln_Items [.x (.pointer none)] = some (.own true []) := by
  rw [F_kiln_Kiln_Items_eq]; simp
theorem nilMean_run : F_kiln_Kiln_Mean [.x (.pointer none)] = some (I 0) := by
  rw [F_kiln_Kiln_Mean_eq]; simp
def kawW : Spc := ⟨⟨#[112, 105, 110, 101]⟩, 6000, 100, 50, 300, 800, 1000, 700, 250, 500, 11000, 500, 80⟩
def kaw0 : Kl := newK ⟨#[115, 108, 111, 119]⟩ 50 [⟨0, 2, 400, 60⟩, ⟨0, 1, 600, 100⟩] kawW [⟨25, ⟨2000, 2000, 0⟩⟩]
def kaw1 : Kl := ⟨⟨#[115, 108, 111, 119]⟩, 50, [⟨0, 2, 400, 60⟩, ⟨0, 1, 600, 100⟩], kawW, [⟨25, ⟨1996, 1999, 0⟩⟩], 250, 60, 0, 1, 1, 0⟩
def kaw2 : Kl := ⟨⟨#[115, 108, 111, 119]⟩, 50, [⟨0, 2, 400, 60⟩, ⟨0, 1, 600, 100⟩], kawW, [⟨25, ⟨1991, 1998, 0⟩⟩], 300, 60, 1, 0, 2, 0⟩
def kaw3 : Kl := ⟨⟨#[115, 108, 111, 119]⟩, 50, [⟨0, 2, 400, 60⟩, ⟨0, 1, 600, 100⟩], kawW, [⟨25, ⟨1977, 1997, 0⟩⟩], 350, 100, 2, 0, 3, 0⟩
theorem kaw_check : checkK ⟨#[115, 108, 111, 119]⟩ 50 [⟨0, 2, 400, 60⟩, ⟨0, 1, 600, 100⟩] kawW [⟨25, ⟨2000, 2000, 0⟩⟩] = 0 := by decide +kernel
theorem kaw_1 : tickK kaw0 [] = kaw1 := rfl
theorem kaw_2 : tickK kaw1 [] = kaw2 := rfl
theorem kaw_3 : tickK kaw2 [] = kaw3 := rfl
end Go.Proofs.YtdefohgkniglpaaGreatDoor
