/-
  The examples of the chapter; KilnBegins and KilnNone, run abstractly.
-/
import Derived.Test.YthgamgdcjgbmnaaDoorKlE
import Derived.Test.YthgamgdcjgbmnaaDoorKlP
namespace Go.Proofs.YthgamgdcjgbmnaaDoor
set_option linter.unusedSimpArgs false
set_option linter.unusedVariables false
open Go Go.Abs
set_option maxHeartbeats 8000000
set_option maxRecDepth 100000
theorem begunGood_run (nm : ByteArray) (ramp : Int) (g : List Stg) (w : Spc) (l : List Itm) (h : checkK nm ramp g w l = 0) : E_law38_begun [] [.agg (eCase nm ramp g w l)] = some (.tup [.ptr 34 0, I 0], [(34, .box 74 (cK (newK nm ramp g w l) (.own true (g.map eSg)) (.own true (l.map eT))))]) := by
  have hl := (inv_new h).many
  have ih := begun_loop nm ramp g w l (by simp only [newK] at hl; omega) bigL 0 l [] rfl (by have := bigL_ge; have : l.length ≤ 1024 := hl; omega) (by simp)
  have hn := newGood_run nm ramp g w l h
  simp at ih hn
  rw [E_law38_begun_eq]; simp [ih, hn]
theorem begunBad_run (nm : ByteArray) (ramp : Int) (g : List Stg) (w : Spc) (l : List Itm) (hl : l.length ≤ 1000000) (h : ¬ checkK nm ramp g w l = 0) : E_law38_begun [] [.agg (eCase nm ramp g w l)] = some (.tup [.x (.pointer none), I (checkK nm ramp g w l)], []) := by
  have ih := begun_loop nm ramp g w l hl bigL 0 l [] rfl (by have := bigL_ge; omega) (by simp)
  have hn := newBad_run nm ramp g w l h
  simp at ih hn
  rw [E_law38_begun_eq]; simp [ih, hn]
theorem nilTick_run (f : List Int) : E_kiln_Kiln_Tick [] [.x (.pointer none), .sl (f.map eI)] = some (B false, []) := by
  rw [E_kiln_Kiln_Tick_eq]; simp
theorem nilDone_run : F_kiln_Kiln_Done [.x (.pointer none)] = some (B false) := by
  rw [F_kiln_Kiln_Done_eq]; simp
theorem nilClimate_run : F_kiln_Kiln_Climate [.x (.pointer none)] = some (.agg [I 0, I 0]) := by
  rw [F_kiln_Kiln_Climate_eq]; simp
theorem nilStage_run : F_kiln_Kiln_Stage [.x (.pointer none)] = some (I 0) := by
  rw [F_kiln_Kiln_Stage_eq]; simp
theorem nilTicks_run : F_kiln_Kiln_Ticks [.x (.pointer none)] = some (.tup [I 0, I 0]) := by
  rw [F_kiln_Kiln_Ticks_eq]; simp
theorem nilItems_run : F_kiln_Kiln_Items [.x (.pointer none)] = some (.own true []) := by
  rw [F_kiln_Kiln_Items_eq]; simp
theorem nilMean_run : F_kiln_Kiln_Mean [.x (.pointer none)] = some (I 0) := by
  rw [F_kiln_Kiln_Mean_eq]; simp
def awW : Spc := ⟨⟨#[112, 105, 110, 101]⟩, 6000, 100, 50, 300, 800, 1000, 700, 250, 500, 11000, 500, 80⟩
def aw0 : Kl := newK ⟨#[115, 108, 111, 119]⟩ 50 [⟨0, 2, 400, 60⟩, ⟨0, 1, 600, 100⟩] awW [⟨25, ⟨2000, 2000, 0⟩⟩]
def aw1 : Kl := ⟨⟨#[115, 108, 111, 119]⟩, 50, [⟨0, 2, 400, 60⟩, ⟨0, 1, 600, 100⟩], awW, [⟨25, ⟨1996, 1999, 0⟩⟩], 250, 60, 0, 1, 1, 0⟩
def aw2 : Kl := ⟨⟨#[115, 108, 111, 119]⟩, 50, [⟨0, 2, 400, 60⟩, ⟨0, 1, 600, 100⟩], awW, [⟨25, ⟨1991, 1998, 0⟩⟩], 300, 60, 1, 0, 2, 0⟩
def aw3 : Kl := ⟨⟨#[115, 108, 111, 119]⟩, 50, [⟨0, 2, 400, 60⟩, ⟨0, 1, 600, 100⟩], awW, [⟨25, ⟨1977, 1997, 0⟩⟩], 350, 100, 2, 0, 3, 0⟩
theorem aw_check : checkK ⟨#[115, 108, 111, 119]⟩ 50 [⟨0, 2, 400, 60⟩, ⟨0, 1, 600, 100⟩] awW [⟨25, ⟨2000, 2000, 0⟩⟩] = 0 := by decide +kernel
theorem aw_1 : tickK aw0 [] = aw1 := rfl
theorem aw_2 : tickK aw1 [] = aw2 := rfl
theorem aw_3 : tickK aw2 [] = aw3 := rfl
theorem awakeK_run : F_law38_awake [] = some (B true) := by
  rw [F_law38_awake_eq]
  have b0 := begunGood_run _ _ _ _ _ aw_check
  have c0 := climate_run aw0
  have t1 := tick'_run aw0 [] (by simp) (by decide) (by decide) (by decide) (by decide)
  rw [aw_1] at t1
  have i1 := litems_run aw1 (by decide)
  have c1 := climate_run aw1
  have s1 := stage_run aw1
  have t2 := tick'_run aw1 [] (by simp) (by decide) (by decide) (by decide) (by decide)
  rw [aw_2] at t2
  have s2 := stage_run aw2
  have t3 := tick'_run aw2 [] (by simp) (by decide) (by decide) (by decide) (by decide)
  rw [aw_3] at t3
  have d3 := done_run aw3
  have t4 := tickDone_run aw3 [] rfl
  have n3 := ticksK_run aw3
  simp [aw0, aw1, aw2, aw3, awW, newK, doneK] at b0 c0 t1 i1 c1 s1 t2 s2 t3 d3 t4 n3
  simp [b0, c0, t1, i1, c1, s1, t2, s2, t3, d3, t4, n3, eqD, eqFs]
end Go.Proofs.YthgamgdcjgbmnaaDoor
