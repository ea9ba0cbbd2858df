/-
  Printed by gen.py for this seat: facts about the types that the laws reach; for each function its annotation (what is kept behind a region, which rows are a variable's own, what is alive at the head of a loop), its abstract run, and that the run is its contract.
-/
import Derived.Test.YthgamgdcjgbmnaaDoorAbs2
import Derived.Test.YthgamgdcjgbmnaaDoorRows
namespace Go.Proofs.YthgamgdcjgbmnaaDoor
open Go Go.Abs
set_option maxRecDepth 100000
set_option linter.unusedSimpArgs false
set_option linter.unusedVariables false
theorem mix : Tryd.prog.follows .mixedOrders = true := by kernel_rfl
theorem laid : laidOutB Tryd.prog = true := by kernel_rfl
@[simp] noncomputable def gl (g : Nat) : Option (List D) := if g = 0 then some [.x (.bool false), .x (.bool false), .x (.bool true), .x (.bool false)] else none
-- 0 ()
attribute [simp] Tryd.underlying0
@[simp] theorem sz0 : szT Tryd.prog 0 = some 1 := by kernel_rfl
@[simp] theorem co0 : Tryd.prog.cellsOf 0 = 1 := by kernel_rfl
@[simp] theorem ag0 : aggT Tryd.prog 0 = some false := by kernel_rfl
-- 1 func()
attribute [simp] Tryd.underlying1
@[simp] theorem sz1 : szT Tryd.prog 1 = some 1 := by kernel_rfl
@[simp] theorem co1 : Tryd.prog.cellsOf 1 = 1 := by kernel_rfl
@[simp] theorem ag1 : aggT Tryd.prog 1 = some false := by kernel_rfl
@[simp] theorem zr1 : zeroD Tryd.prog 1 = some [.x .nilFunc] := by kernel_rfl
-- 2 int64
attribute [simp] Tryd.underlying2
@[simp] theorem sz2 : szT Tryd.prog 2 = some 1 := by kernel_rfl
@[simp] theorem co2 : Tryd.prog.cellsOf 2 = 1 := by kernel_rfl
@[simp] theorem ag2 : aggT Tryd.prog 2 = some false := by kernel_rfl
@[simp] theorem zr2 : zeroD Tryd.prog 2 = some [.x (.int .i64 0)] := by kernel_rfl
-- 3 int
attribute [simp] Tryd.underlying3
@[simp] theorem sz3 : szT Tryd.prog 3 = some 1 := by kernel_rfl
@[simp] theorem co3 : Tryd.prog.cellsOf 3 = 1 := by kernel_rfl
@[simp] theorem ag3 : aggT Tryd.prog 3 = some false := by kernel_rfl
@[simp] theorem zr3 : zeroD Tryd.prog 3 = some [.x (.int .i64 0)] := by kernel_rfl
-- 4 bool
attribute [simp] Tryd.underlying4
@[simp] theorem sz4 : szT Tryd.prog 4 = some 1 := by kernel_rfl
@[simp] theorem co4 : Tryd.prog.cellsOf 4 = 1 := by kernel_rfl
@[simp] theorem ag4 : aggT Tryd.prog 4 = some false := by kernel_rfl
@[simp] theorem zr4 : zeroD Tryd.prog 4 = some [.x (.bool false)] := by kernel_rfl
-- 5 uint8
attribute [simp] Tryd.underlying5
@[simp] theorem sz5 : szT Tryd.prog 5 = some 1 := by kernel_rfl
@[simp] theorem co5 : Tryd.prog.cellsOf 5 = 1 := by kernel_rfl
@[simp] theorem ag5 : aggT Tryd.prog 5 = some false := by kernel_rfl
@[simp] theorem zr5 : zeroD Tryd.prog 5 = some [.x (.int .u8 0)] := by kernel_rfl
-- 8 runtime.boundsError
attribute [simp] Tryd.underlying8
@[simp] theorem sz8 : szT Tryd.prog 8 = some 4 := by kernel_rfl
@[simp] theorem co8 : Tryd.prog.cellsOf 8 = 4 := by kernel_rfl
@[simp] theorem ag8 : aggT Tryd.prog 8 = some true := by kernel_rfl
@[simp] theorem zr8 : zeroD Tryd.prog 8 = some [.x (.int .i64 0), .x (.int .i64 0), .x (.bool false), .x (.int .u8 0)] := by kernel_rfl
@[simp] theorem bt8 : buildT Tryd.prog 8 = some ([(0, 1), (1, 1), (2, 1), (3, 1)], [.x (.int .i64 0), .x (.int .i64 0), .x (.bool false), .x (.int .u8 0)]) := by kernel_rfl
@[simp] theorem st8 : Tryd.prog.stoodInHeld 8 = false := by kernel_rfl
@[simp] theorem eg8 : Tryd.prog.eqGuardType Tryd.prog.depth 8 = false := by kernel_rfl
-- 9 string
attribute [simp] Tryd.underlying9
@[simp] theorem sz9 : szT Tryd.prog 9 = some 1 := by kernel_rfl
@[simp] theorem co9 : Tryd.prog.cellsOf 9 = 1 := by kernel_rfl
@[simp] theorem ag9 : aggT Tryd.prog 9 = some false := by kernel_rfl
@[simp] theorem zr9 : zeroD Tryd.prog 9 = some [.x (.string ByteArray.empty)] := by kernel_rfl
-- 10 runtime.errorString
attribute [simp] Tryd.underlying10
@[simp] theorem sz10 : szT Tryd.prog 10 = some 1 := by kernel_rfl
@[simp] theorem co10 : Tryd.prog.cellsOf 10 = 1 := by kernel_rfl
@[simp] theorem ag10 : aggT Tryd.prog 10 = some false := by kernel_rfl
@[simp] theorem zr10 : zeroD Tryd.prog 10 = some [.x (.string ByteArray.empty)] := by kernel_rfl
-- 11 runtime.plainError
attribute [simp] Tryd.underlying11
@[simp] theorem sz11 : szT Tryd.prog 11 = some 1 := by kernel_rfl
@[simp] theorem co11 : Tryd.prog.cellsOf 11 = 1 := by kernel_rfl
@[simp] theorem ag11 : aggT Tryd.prog 11 = some false := by kernel_rfl
@[simp] theorem zr11 : zeroD Tryd.prog 11 = some [.x (.string ByteArray.empty)] := by kernel_rfl
-- 12 uintptr
attribute [simp] Tryd.underlying12
@[simp] theorem sz12 : szT Tryd.prog 12 = some 1 := by kernel_rfl
@[simp] theorem co12 : Tryd.prog.cellsOf 12 = 1 := by kernel_rfl
@[simp] theorem ag12 : aggT Tryd.prog 12 = some false := by kernel_rfl
@[simp] theorem zr12 : zeroD Tryd.prog 12 = some [.x (.int .u64 0)] := by kernel_rfl
-- 22 []api.Stage
attribute [simp] Tryd.underlying22
@[simp] theorem sz22 : szT Tryd.prog 22 = some 1 := by kernel_rfl
@[simp] theorem co22 : Tryd.prog.cellsOf 22 = 1 := by kernel_rfl
@[simp] theorem ag22 : aggT Tryd.prog 22 = some false := by kernel_rfl
@[simp] theorem zr22 : zeroD Tryd.prog 22 = some [.emp] := by kernel_rfl
@[simp] theorem mk22 : mkT Tryd.prog 22 = some (65, 4, 32, [.x (.int .i64 0), .x (.int .i64 0), .x (.int .i64 0), .x (.int .i64 0)]) := by kernel_rfl
@[simp] theorem ap22 : appT Tryd.prog 22 = some (65, 4, 32) := by kernel_rfl
-- 24 api.Schedule
attribute [simp] Tryd.underlying24
@[simp] theorem sz24 : szT Tryd.prog 24 = some 3 := by kernel_rfl
@[simp] theorem co24 : Tryd.prog.cellsOf 24 = 3 := by kernel_rfl
@[simp] theorem ag24 : aggT Tryd.prog 24 = some true := by kernel_rfl
@[simp] theorem zr24 : zeroD Tryd.prog 24 = some [.x (.string ByteArray.empty), .x (.int .i64 0), .emp] := by kernel_rfl
@[simp] theorem bt24 : buildT Tryd.prog 24 = some ([(0, 1), (1, 1), (2, 1)], [.x (.string ByteArray.empty), .x (.int .i64 0), .emp]) := by kernel_rfl
@[simp] theorem st24 : Tryd.prog.stoodInHeld 24 = false := by kernel_rfl
@[simp] theorem eg24 : Tryd.prog.eqGuardType Tryd.prog.depth 24 = false := by kernel_rfl
-- 26 api.Species
attribute [simp] Tryd.underlying26
@[simp] theorem sz26 : szT Tryd.prog 26 = some 13 := by kernel_rfl
@[simp] theorem co26 : Tryd.prog.cellsOf 26 = 13 := by kernel_rfl
@[simp] theorem ag26 : aggT Tryd.prog 26 = some true := by kernel_rfl
@[simp] theorem zr26 : zeroD Tryd.prog 26 = some [.x (.string ByteArray.empty), .x (.int .i64 0), .x (.int .i64 0), .x (.int .i64 0), .x (.int .i64 0), .x (.int .i64 0), .x (.int .i64 0), .x (.int .i64 0), .x (.int .i64 0), .x (.int .i64 0), .x (.int .i64 0), .x (.int .i64 0), .x (.int .i64 0)] := by kernel_rfl
@[simp] theorem bt26 : buildT Tryd.prog 26 = some ([(0, 1), (1, 1), (2, 1), (3, 1), (4, 1), (5, 1), (6, 1), (7, 1), (8, 1), (9, 1), (10, 1), (11, 1), (12, 1)], [.x (.string ByteArray.empty), .x (.int .i64 0), .x (.int .i64 0), .x (.int .i64 0), .x (.int .i64 0), .x (.int .i64 0), .x (.int .i64 0), .x (.int .i64 0), .x (.int .i64 0), .x (.int .i64 0), .x (.int .i64 0), .x (.int .i64 0), .x (.int .i64 0)]) := by kernel_rfl
@[simp] theorem st26 : Tryd.prog.stoodInHeld 26 = false := by kernel_rfl
@[simp] theorem eg26 : Tryd.prog.eqGuardType Tryd.prog.depth 26 = false := by kernel_rfl
-- 27 []sawmillref38.Item
attribute [simp] Tryd.underlying27
@[simp] theorem sz27 : szT Tryd.prog 27 = some 1 := by kernel_rfl
@[simp] theorem co27 : Tryd.prog.cellsOf 27 = 1 := by kernel_rfl
@[simp] theorem ag27 : aggT Tryd.prog 27 = some false := by kernel_rfl
@[simp] theorem zr27 : zeroD Tryd.prog 27 = some [.emp] := by kernel_rfl
@[simp] theorem mk27 : mkT Tryd.prog 27 = some (54, 4, 32, [.x (.int .i64 0), .x (.int .i64 0), .x (.int .i64 0), .x (.int .i64 0)]) := by kernel_rfl
@[simp] theorem ap27 : appT Tryd.prog 27 = some (54, 4, 32) := by kernel_rfl
-- 29 sawmilllaw38.Case
attribute [simp] Tryd.underlying29
@[simp] theorem sz29 : szT Tryd.prog 29 = some 17 := by kernel_rfl
@[simp] theorem co29 : Tryd.prog.cellsOf 29 = 17 := by kernel_rfl
@[simp] theorem ag29 : aggT Tryd.prog 29 = some true := by kernel_rfl
@[simp] theorem zr29 : zeroD Tryd.prog 29 = some [.x (.string ByteArray.empty), .x (.int .i64 0), .emp, .x (.string ByteArray.empty), .x (.int .i64 0), .x (.int .i64 0), .x (.int .i64 0), .x (.int .i64 0), .x (.int .i64 0), .x (.int .i64 0), .x (.int .i64 0), .x (.int .i64 0), .x (.int .i64 0), .x (.int .i64 0), .x (.int .i64 0), .x (.int .i64 0), .emp] := by kernel_rfl
@[simp] theorem bt29 : buildT Tryd.prog 29 = some ([(0, 3), (3, 13), (16, 1)], [.x (.string ByteArray.empty), .x (.int .i64 0), .emp, .x (.string ByteArray.empty), .x (.int .i64 0), .x (.int .i64 0), .x (.int .i64 0), .x (.int .i64 0), .x (.int .i64 0), .x (.int .i64 0), .x (.int .i64 0), .x (.int .i64 0), .x (.int .i64 0), .x (.int .i64 0), .x (.int .i64 0), .x (.int .i64 0), .emp]) := by kernel_rfl
@[simp] theorem st29 : Tryd.prog.stoodInHeld 29 = false := by kernel_rfl
@[simp] theorem eg29 : Tryd.prog.eqGuardType Tryd.prog.depth 29 = false := by kernel_rfl
-- 32 *kiln.Kiln
attribute [simp] Tryd.underlying32
@[simp] theorem sz32 : szT Tryd.prog 32 = some 1 := by kernel_rfl
@[simp] theorem co32 : Tryd.prog.cellsOf 32 = 1 := by kernel_rfl
@[simp] theorem ag32 : aggT Tryd.prog 32 = some false := by kernel_rfl
@[simp] theorem zr32 : zeroD Tryd.prog 32 = some [.x (.pointer none)] := by kernel_rfl
-- 33 api.Errno
attribute [simp] Tryd.underlying33
@[simp] theorem sz33 : szT Tryd.prog 33 = some 1 := by kernel_rfl
@[simp] theorem co33 : Tryd.prog.cellsOf 33 = 1 := by kernel_rfl
@[simp] theorem ag33 : aggT Tryd.prog 33 = some false := by kernel_rfl
@[simp] theorem zr33 : zeroD Tryd.prog 33 = some [.x (.int .i64 0)] := by kernel_rfl
-- 34 (*kiln.Kiln, api.Errno)
attribute [simp] Tryd.underlying34
@[simp] theorem sz34 : szT Tryd.prog 34 = some 1 := by kernel_rfl
@[simp] theorem co34 : Tryd.prog.cellsOf 34 = 1 := by kernel_rfl
@[simp] theorem ag34 : aggT Tryd.prog 34 = some false := by kernel_rfl
-- 37 api.Climate
attribute [simp] Tryd.underlying37
@[simp] theorem sz37 : szT Tryd.prog 37 = some 2 := by kernel_rfl
@[simp] theorem co37 : Tryd.prog.cellsOf 37 = 2 := by kernel_rfl
@[simp] theorem ag37 : aggT Tryd.prog 37 = some true := by kernel_rfl
@[simp] theorem zr37 : zeroD Tryd.prog 37 = some [.x (.int .i64 0), .x (.int .i64 0)] := by kernel_rfl
@[simp] theorem bt37 : buildT Tryd.prog 37 = some ([(0, 1), (1, 1)], [.x (.int .i64 0), .x (.int .i64 0)]) := by kernel_rfl
@[simp] theorem st37 : Tryd.prog.stoodInHeld 37 = false := by kernel_rfl
@[simp] theorem eg37 : Tryd.prog.eqGuardType Tryd.prog.depth 37 = false := by kernel_rfl
-- 39 sawmillref38.Kiln
attribute [simp] Tryd.underlying39
@[simp] theorem sz39 : szT Tryd.prog 39 = some 23 := by kernel_rfl
@[simp] theorem co39 : Tryd.prog.cellsOf 39 = 23 := by kernel_rfl
@[simp] theorem ag39 : aggT Tryd.prog 39 = some true := by kernel_rfl
@[simp] theorem zr39 : zeroD Tryd.prog 39 = some [.x (.string ByteArray.empty), .x (.int .i64 0), .emp, .x (.string ByteArray.empty), .x (.int .i64 0), .x (.int .i64 0), .x (.int .i64 0), .x (.int .i64 0), .x (.int .i64 0), .x (.int .i64 0), .x (.int .i64 0), .x (.int .i64 0), .x (.int .i64 0), .x (.int .i64 0), .x (.int .i64 0), .x (.int .i64 0), .emp, .x (.int .i64 0), .x (.int .i64 0), .x (.int .i64 0), .x (.int .i64 0), .x (.int .i64 0), .x (.int .i64 0)] := by kernel_rfl
@[simp] theorem bt39 : buildT Tryd.prog 39 = some ([(0, 3), (3, 13), (16, 1), (17, 2), (19, 1), (20, 1), (21, 1), (22, 1)], [.x (.string ByteArray.empty), .x (.int .i64 0), .emp, .x (.string ByteArray.empty), .x (.int .i64 0), .x (.int .i64 0), .x (.int .i64 0), .x (.int .i64 0), .x (.int .i64 0), .x (.int .i64 0), .x (.int .i64 0), .x (.int .i64 0), .x (.int .i64 0), .x (.int .i64 0), .x (.int .i64 0), .x (.int .i64 0), .emp, .x (.int .i64 0), .x (.int .i64 0), .x (.int .i64 0), .x (.int .i64 0), .x (.int .i64 0), .x (.int .i64 0)]) := by kernel_rfl
@[simp] theorem st39 : Tryd.prog.stoodInHeld 39 = false := by kernel_rfl
@[simp] theorem eg39 : Tryd.prog.eqGuardType Tryd.prog.depth 39 = false := by kernel_rfl
-- 40 (sawmillref38.Kiln, api.Errno)
attribute [simp] Tryd.underlying40
@[simp] theorem sz40 : szT Tryd.prog 40 = some 1 := by kernel_rfl
@[simp] theorem co40 : Tryd.prog.cellsOf 40 = 1 := by kernel_rfl
@[simp] theorem ag40 : aggT Tryd.prog 40 = some false := by kernel_rfl
-- 43 [][]int
attribute [simp] Tryd.underlying43
@[simp] theorem sz43 : szT Tryd.prog 43 = some 1 := by kernel_rfl
@[simp] theorem co43 : Tryd.prog.cellsOf 43 = 1 := by kernel_rfl
@[simp] theorem ag43 : aggT Tryd.prog 43 = some false := by kernel_rfl
@[simp] theorem zr43 : zeroD Tryd.prog 43 = some [.emp] := by kernel_rfl
@[simp] theorem mk43 : mkT Tryd.prog 43 = some (46, 1, 24, [.emp]) := by kernel_rfl
@[simp] theorem ap43 : appT Tryd.prog 43 = some (46, 1, 24) := by kernel_rfl
-- 46 []int
attribute [simp] Tryd.underlying46
@[simp] theorem sz46 : szT Tryd.prog 46 = some 1 := by kernel_rfl
@[simp] theorem co46 : Tryd.prog.cellsOf 46 = 1 := by kernel_rfl
@[simp] theorem ag46 : aggT Tryd.prog 46 = some false := by kernel_rfl
@[simp] theorem zr46 : zeroD Tryd.prog 46 = some [.emp] := by kernel_rfl
@[simp] theorem mk46 : mkT Tryd.prog 46 = some (3, 1, 8, [.x (.int .i64 0)]) := by kernel_rfl
@[simp] theorem ap46 : appT Tryd.prog 46 = some (3, 1, 8) := by kernel_rfl
-- 48 []kiln.Item
attribute [simp] Tryd.underlying48
@[simp] theorem sz48 : szT Tryd.prog 48 = some 1 := by kernel_rfl
@[simp] theorem co48 : Tryd.prog.cellsOf 48 = 1 := by kernel_rfl
@[simp] theorem ag48 : aggT Tryd.prog 48 = some false := by kernel_rfl
@[simp] theorem zr48 : zeroD Tryd.prog 48 = some [.emp] := by kernel_rfl
@[simp] theorem mk48 : mkT Tryd.prog 48 = some (53, 4, 32, [.x (.int .i64 0), .x (.int .i64 0), .x (.int .i64 0), .x (.int .i64 0)]) := by kernel_rfl
@[simp] theorem ap48 : appT Tryd.prog 48 = some (53, 4, 32) := by kernel_rfl
-- 51 api.Cell
attribute [simp] Tryd.underlying51
@[simp] theorem sz51 : szT Tryd.prog 51 = some 3 := by kernel_rfl
@[simp] theorem co51 : Tryd.prog.cellsOf 51 = 3 := by kernel_rfl
@[simp] theorem ag51 : aggT Tryd.prog 51 = some true := by kernel_rfl
@[simp] theorem zr51 : zeroD Tryd.prog 51 = some [.x (.int .i64 0), .x (.int .i64 0), .x (.int .i64 0)] := by kernel_rfl
@[simp] theorem bt51 : buildT Tryd.prog 51 = some ([(0, 1), (1, 1), (2, 1)], [.x (.int .i64 0), .x (.int .i64 0), .x (.int .i64 0)]) := by kernel_rfl
@[simp] theorem st51 : Tryd.prog.stoodInHeld 51 = false := by kernel_rfl
@[simp] theorem eg51 : Tryd.prog.eqGuardType Tryd.prog.depth 51 = false := by kernel_rfl
-- 53 kiln.Item
attribute [simp] Tryd.underlying53
@[simp] theorem sz53 : szT Tryd.prog 53 = some 4 := by kernel_rfl
@[simp] theorem co53 : Tryd.prog.cellsOf 53 = 4 := by kernel_rfl
@[simp] theorem ag53 : aggT Tryd.prog 53 = some true := by kernel_rfl
@[simp] theorem zr53 : zeroD Tryd.prog 53 = some [.x (.int .i64 0), .x (.int .i64 0), .x (.int .i64 0), .x (.int .i64 0)] := by kernel_rfl
@[simp] theorem bt53 : buildT Tryd.prog 53 = some ([(0, 1), (1, 3)], [.x (.int .i64 0), .x (.int .i64 0), .x (.int .i64 0), .x (.int .i64 0)]) := by kernel_rfl
@[simp] theorem st53 : Tryd.prog.stoodInHeld 53 = false := by kernel_rfl
@[simp] theorem eg53 : Tryd.prog.eqGuardType Tryd.prog.depth 53 = false := by kernel_rfl
-- 54 sawmillref38.Item
attribute [simp] Tryd.underlying54
@[simp] theorem sz54 : szT Tryd.prog 54 = some 4 := by kernel_rfl
@[simp] theorem co54 : Tryd.prog.cellsOf 54 = 4 := by kernel_rfl
@[simp] theorem ag54 : aggT Tryd.prog 54 = some true := by kernel_rfl
@[simp] theorem zr54 : zeroD Tryd.prog 54 = some [.x (.int .i64 0), .x (.int .i64 0), .x (.int .i64 0), .x (.int .i64 0)] := by kernel_rfl
@[simp] theorem bt54 : buildT Tryd.prog 54 = some ([(0, 1), (1, 3)], [.x (.int .i64 0), .x (.int .i64 0), .x (.int .i64 0), .x (.int .i64 0)]) := by kernel_rfl
@[simp] theorem st54 : Tryd.prog.stoodInHeld 54 = false := by kernel_rfl
@[simp] theorem eg54 : Tryd.prog.eqGuardType Tryd.prog.depth 54 = false := by kernel_rfl
-- 58 (int, int)
attribute [simp] Tryd.underlying58
@[simp] theorem sz58 : szT Tryd.prog 58 = some 1 := by kernel_rfl
@[simp] theorem co58 : Tryd.prog.cellsOf 58 = 1 := by kernel_rfl
@[simp] theorem ag58 : aggT Tryd.prog 58 = some false := by kernel_rfl
-- 65 api.Stage
attribute [simp] Tryd.underlying65
@[simp] theorem sz65 : szT Tryd.prog 65 = some 4 := by kernel_rfl
@[simp] theorem co65 : Tryd.prog.cellsOf 65 = 4 := by kernel_rfl
@[simp] theorem ag65 : aggT Tryd.prog 65 = some true := by kernel_rfl
@[simp] theorem zr65 : zeroD Tryd.prog 65 = some [.x (.int .i64 0), .x (.int .i64 0), .x (.int .i64 0), .x (.int .i64 0)] := by kernel_rfl
@[simp] theorem bt65 : buildT Tryd.prog 65 = some ([(0, 1), (1, 1), (2, 1), (3, 1)], [.x (.int .i64 0), .x (.int .i64 0), .x (.int .i64 0), .x (.int .i64 0)]) := by kernel_rfl
@[simp] theorem st65 : Tryd.prog.stoodInHeld 65 = false := by kernel_rfl
@[simp] theorem eg65 : Tryd.prog.eqGuardType Tryd.prog.depth 65 = false := by kernel_rfl
-- 69 []api.Species
attribute [simp] Tryd.underlying69
@[simp] theorem sz69 : szT Tryd.prog 69 = some 1 := by kernel_rfl
@[simp] theorem co69 : Tryd.prog.cellsOf 69 = 1 := by kernel_rfl
@[simp] theorem ag69 : aggT Tryd.prog 69 = some false := by kernel_rfl
@[simp] theorem zr69 : zeroD Tryd.prog 69 = some [.emp] := by kernel_rfl
@[simp] theorem mk69 : mkT Tryd.prog 69 = some (26, 13, 112, [.x (.string ByteArray.empty), .x (.int .i64 0), .x (.int .i64 0), .x (.int .i64 0), .x (.int .i64 0), .x (.int .i64 0), .x (.int .i64 0), .x (.int .i64 0), .x (.int .i64 0), .x (.int .i64 0), .x (.int .i64 0), .x (.int .i64 0), .x (.int .i64 0)]) := by kernel_rfl
@[simp] theorem ap69 : appT Tryd.prog 69 = some (26, 13, 112) := by kernel_rfl
-- 74 kiln.Kiln
attribute [simp] Tryd.underlying74
@[simp] theorem sz74 : szT Tryd.prog 74 = some 23 := by kernel_rfl
@[simp] theorem co74 : Tryd.prog.cellsOf 74 = 23 := by kernel_rfl
@[simp] theorem ag74 : aggT Tryd.prog 74 = some true := by kernel_rfl
@[simp] theorem zr74 : zeroD Tryd.prog 74 = some [.x (.string ByteArray.empty), .x (.int .i64 0), .emp, .x (.string ByteArray.empty), .x (.int .i64 0), .x (.int .i64 0), .x (.int .i64 0), .x (.int .i64 0), .x (.int .i64 0), .x (.int .i64 0), .x (.int .i64 0), .x (.int .i64 0), .x (.int .i64 0), .x (.int .i64 0), .x (.int .i64 0), .x (.int .i64 0), .emp, .x (.int .i64 0), .x (.int .i64 0), .x (.int .i64 0), .x (.int .i64 0), .x (.int .i64 0), .x (.int .i64 0)] := by kernel_rfl
@[simp] theorem bt74 : buildT Tryd.prog 74 = some ([(0, 3), (3, 13), (16, 1), (17, 2), (19, 1), (20, 1), (21, 1), (22, 1)], [.x (.string ByteArray.empty), .x (.int .i64 0), .emp, .x (.string ByteArray.empty), .x (.int .i64 0), .x (.int .i64 0), .x (.int .i64 0), .x (.int .i64 0), .x (.int .i64 0), .x (.int .i64 0), .x (.int .i64 0), .x (.int .i64 0), .x (.int .i64 0), .x (.int .i64 0), .x (.int .i64 0), .x (.int .i64 0), .emp, .x (.int .i64 0), .x (.int .i64 0), .x (.int .i64 0), .x (.int .i64 0), .x (.int .i64 0), .x (.int .i64 0)]) := by kernel_rfl
@[simp] theorem st74 : Tryd.prog.stoodInHeld 74 = false := by kernel_rfl
@[simp] theorem eg74 : Tryd.prog.eqGuardType Tryd.prog.depth 74 = false := by kernel_rfl
-- 78 (int, bool)
attribute [simp] Tryd.underlying78
@[simp] theorem sz78 : szT Tryd.prog 78 = some 1 := by kernel_rfl
@[simp] theorem co78 : Tryd.prog.cellsOf 78 = 1 := by kernel_rfl
@[simp] theorem ag78 : aggT Tryd.prog 78 = some false := by kernel_rfl
-- 88 [4]bool
attribute [simp] Tryd.underlying88
@[simp] theorem sz88 : szT Tryd.prog 88 = some 4 := by kernel_rfl
@[simp] theorem co88 : Tryd.prog.cellsOf 88 = 4 := by kernel_rfl
@[simp] theorem ag88 : aggT Tryd.prog 88 = some true := by kernel_rfl
@[simp] theorem zr88 : zeroD Tryd.prog 88 = some [.x (.bool false), .x (.bool false), .x (.bool false), .x (.bool false)] := by kernel_rfl
@[simp] theorem bt88 : buildT Tryd.prog 88 = some ([(0, 1), (1, 1), (2, 1), (3, 1)], [.x (.bool false), .x (.bool false), .x (.bool false), .x (.bool false)]) := by kernel_rfl
@[simp] theorem eg88 : Tryd.prog.eqGuardType Tryd.prog.depth 88 = false := by kernel_rfl
-- 91 (api.Species, bool)
attribute [simp] Tryd.underlying91
@[simp] theorem sz91 : szT Tryd.prog 91 = some 1 := by kernel_rfl
@[simp] theorem co91 : Tryd.prog.cellsOf 91 = 1 := by kernel_rfl
@[simp] theorem ag91 : aggT Tryd.prog 91 = some false := by kernel_rfl
-- 97 [2]int
attribute [simp] Tryd.underlying97
@[simp] theorem sz97 : szT Tryd.prog 97 = some 2 := by kernel_rfl
@[simp] theorem co97 : Tryd.prog.cellsOf 97 = 2 := by kernel_rfl
@[simp] theorem ag97 : aggT Tryd.prog 97 = some true := by kernel_rfl
@[simp] theorem zr97 : zeroD Tryd.prog 97 = some [.x (.int .i64 0), .x (.int .i64 0)] := by kernel_rfl
@[simp] theorem bt97 : buildT Tryd.prog 97 = some ([(0, 1), (1, 1)], [.x (.int .i64 0), .x (.int .i64 0)]) := by kernel_rfl
@[simp] theorem eg97 : Tryd.prog.eqGuardType Tryd.prog.depth 97 = false := by kernel_rfl
-- 98 [12][2]int
attribute [simp] Tryd.underlying98
@[simp] theorem sz98 : szT Tryd.prog 98 = some 24 := by kernel_rfl
@[simp] theorem co98 : Tryd.prog.cellsOf 98 = 24 := by kernel_rfl
@[simp] theorem ag98 : aggT Tryd.prog 98 = some true := by kernel_rfl
@[simp] theorem zr98 : zeroD Tryd.prog 98 = some [.x (.int .i64 0), .x (.int .i64 0), .x (.int .i64 0), .x (.int .i64 0), .x (.int .i64 0), .x (.int .i64 0), .x (.int .i64 0), .x (.int .i64 0), .x (.int .i64 0), .x (.int .i64 0), .x (.int .i64 0), .x (.int .i64 0), .x (.int .i64 0), .x (.int .i64 0), .x (.int .i64 0), .x (.int .i64 0), .x (.int .i64 0), .x (.int .i64 0), .x (.int .i64 0), .x (.int .i64 0), .x (.int .i64 0), .x (.int .i64 0), .x (.int .i64 0), .x (.int .i64 0)] := by kernel_rfl
@[simp] theorem bt98 : buildT Tryd.prog 98 = some ([(0, 2), (2, 2), (4, 2), (6, 2), (8, 2), (10, 2), (12, 2), (14, 2), (16, 2), (18, 2), (20, 2), (22, 2)], [.x (.int .i64 0), .x (.int .i64 0), .x (.int .i64 0), .x (.int .i64 0), .x (.int .i64 0), .x (.int .i64 0), .x (.int .i64 0), .x (.int .i64 0), .x (.int .i64 0), .x (.int .i64 0), .x (.int .i64 0), .x (.int .i64 0), .x (.int .i64 0), .x (.int .i64 0), .x (.int .i64 0), .x (.int .i64 0), .x (.int .i64 0), .x (.int .i64 0), .x (.int .i64 0), .x (.int .i64 0), .x (.int .i64 0), .x (.int .i64 0), .x (.int .i64 0), .x (.int .i64 0)]) := by kernel_rfl
-- 99 [12]int
attribute [simp] Tryd.underlying99
@[simp] theorem sz99 : szT Tryd.prog 99 = some 12 := by kernel_rfl
@[simp] theorem co99 : Tryd.prog.cellsOf 99 = 12 := by kernel_rfl
@[simp] theorem ag99 : aggT Tryd.prog 99 = some true := by kernel_rfl
@[simp] theorem zr99 : zeroD Tryd.prog 99 = some [.x (.int .i64 0), .x (.int .i64 0), .x (.int .i64 0), .x (.int .i64 0), .x (.int .i64 0), .x (.int .i64 0), .x (.int .i64 0), .x (.int .i64 0), .x (.int .i64 0), .x (.int .i64 0), .x (.int .i64 0), .x (.int .i64 0)] := by kernel_rfl
@[simp] theorem bt99 : buildT Tryd.prog 99 = some ([(0, 1), (1, 1), (2, 1), (3, 1), (4, 1), (5, 1), (6, 1), (7, 1), (8, 1), (9, 1), (10, 1), (11, 1)], [.x (.int .i64 0), .x (.int .i64 0), .x (.int .i64 0), .x (.int .i64 0), .x (.int .i64 0), .x (.int .i64 0), .x (.int .i64 0), .x (.int .i64 0), .x (.int .i64 0), .x (.int .i64 0), .x (.int .i64 0), .x (.int .i64 0)]) := by kernel_rfl
@[simp] theorem eg99 : Tryd.prog.eqGuardType Tryd.prog.depth 99 = false := by kernel_rfl
-- 103 uint64
attribute [simp] Tryd.underlying103
@[simp] theorem sz103 : szT Tryd.prog 103 = some 1 := by kernel_rfl
@[simp] theorem co103 : Tryd.prog.cellsOf 103 = 1 := by kernel_rfl
@[simp] theorem ag103 : aggT Tryd.prog 103 = some false := by kernel_rfl
@[simp] theorem zr103 : zeroD Tryd.prog 103 = some [.x (.int .u64 0)] := by kernel_rfl
-- 104 (uint64, uint64)
attribute [simp] Tryd.underlying104
@[simp] theorem sz104 : szT Tryd.prog 104 = some 1 := by kernel_rfl
@[simp] theorem co104 : Tryd.prog.cellsOf 104 = 1 := by kernel_rfl
@[simp] theorem ag104 : aggT Tryd.prog 104 = some false := by kernel_rfl
-- 109 api.Grid
attribute [simp] Tryd.underlying109
@[simp] theorem sz109 : szT Tryd.prog 109 = some 3 := by kernel_rfl
@[simp] theorem co109 : Tryd.prog.cellsOf 109 = 3 := by kernel_rfl
@[simp] theorem ag109 : aggT Tryd.prog 109 = some true := by kernel_rfl
@[simp] theorem zr109 : zeroD Tryd.prog 109 = some [.emp, .emp, .emp] := by kernel_rfl
@[simp] theorem bt109 : buildT Tryd.prog 109 = some ([(0, 1), (1, 1), (2, 1)], [.emp, .emp, .emp]) := by kernel_rfl
@[simp] theorem st109 : Tryd.prog.stoodInHeld 109 = false := by kernel_rfl
@[simp] theorem eg109 : Tryd.prog.eqGuardType Tryd.prog.depth 109 = false := by kernel_rfl
-- 111 uint
attribute [simp] Tryd.underlying111
@[simp] theorem sz111 : szT Tryd.prog 111 = some 1 := by kernel_rfl
@[simp] theorem co111 : Tryd.prog.cellsOf 111 = 1 := by kernel_rfl
@[simp] theorem ag111 : aggT Tryd.prog 111 = some false := by kernel_rfl
@[simp] theorem zr111 : zeroD Tryd.prog 111 = some [.x (.int .u64 0)] := by kernel_rfl
-- 113 error
attribute [simp] Tryd.underlying113
@[simp] theorem sz113 : szT Tryd.prog 113 = some 1 := by kernel_rfl
@[simp] theorem co113 : Tryd.prog.cellsOf 113 = 1 := by kernel_rfl
@[simp] theorem ag113 : aggT Tryd.prog 113 = some false := by kernel_rfl
@[simp] theorem zr113 : zeroD Tryd.prog 113 = some [.x .nilIface] := by kernel_rfl
-- 116 [16]int
attribute [simp] Tryd.underlying116
@[simp] theorem sz116 : szT Tryd.prog 116 = some 16 := by kernel_rfl
@[simp] theorem co116 : Tryd.prog.cellsOf 116 = 16 := by kernel_rfl
@[simp] theorem ag116 : aggT Tryd.prog 116 = some true := by kernel_rfl
@[simp] theorem zr116 : zeroD Tryd.prog 116 = some [.x (.int .i64 0), .x (.int .i64 0), .x (.int .i64 0), .x (.int .i64 0), .x (.int .i64 0), .x (.int .i64 0), .x (.int .i64 0), .x (.int .i64 0), .x (.int .i64 0), .x (.int .i64 0), .x (.int .i64 0), .x (.int .i64 0), .x (.int .i64 0), .x (.int .i64 0), .x (.int .i64 0), .x (.int .i64 0)] := by kernel_rfl
@[simp] theorem bt116 : buildT Tryd.prog 116 = some ([(0, 1), (1, 1), (2, 1), (3, 1), (4, 1), (5, 1), (6, 1), (7, 1), (8, 1), (9, 1), (10, 1), (11, 1), (12, 1), (13, 1), (14, 1), (15, 1)], [.x (.int .i64 0), .x (.int .i64 0), .x (.int .i64 0), .x (.int .i64 0), .x (.int .i64 0), .x (.int .i64 0), .x (.int .i64 0), .x (.int .i64 0), .x (.int .i64 0), .x (.int .i64 0), .x (.int .i64 0), .x (.int .i64 0), .x (.int .i64 0), .x (.int .i64 0), .x (.int .i64 0), .x (.int .i64 0)]) := by kernel_rfl
@[simp] theorem eg116 : Tryd.prog.eqGuardType Tryd.prog.depth 116 = false := by kernel_rfl
-- 118 []api.Point
attribute [simp] Tryd.underlying118
@[simp] theorem sz118 : szT Tryd.prog 118 = some 1 := by kernel_rfl
@[simp] theorem co118 : Tryd.prog.cellsOf 118 = 1 := by kernel_rfl
@[simp] theorem ag118 : aggT Tryd.prog 118 = some false := by kernel_rfl
@[simp] theorem zr118 : zeroD Tryd.prog 118 = some [.emp] := by kernel_rfl
@[simp] theorem mk118 : mkT Tryd.prog 118 = some (124, 2, 16, [.x (.int .i64 0), .x (.int .i64 0)]) := by kernel_rfl
@[simp] theorem ap118 : appT Tryd.prog 118 = some (124, 2, 16) := by kernel_rfl
-- 124 api.Point
attribute [simp] Tryd.underlying124
@[simp] theorem sz124 : szT Tryd.prog 124 = some 2 := by kernel_rfl
@[simp] theorem co124 : Tryd.prog.cellsOf 124 = 2 := by kernel_rfl
@[simp] theorem ag124 : aggT Tryd.prog 124 = some true := by kernel_rfl
@[simp] theorem zr124 : zeroD Tryd.prog 124 = some [.x (.int .i64 0), .x (.int .i64 0)] := by kernel_rfl
@[simp] theorem bt124 : buildT Tryd.prog 124 = some ([(0, 1), (1, 1)], [.x (.int .i64 0), .x (.int .i64 0)]) := by kernel_rfl
@[simp] theorem st124 : Tryd.prog.stoodInHeld 124 = false := by kernel_rfl
@[simp] theorem eg124 : Tryd.prog.eqGuardType Tryd.prog.depth 124 = false := by kernel_rfl
-- sawmill/sawmilllaw38.light: loops []; state: params 0..0, then [1, 2]
attribute [simp] Tryd.f8
noncomputable def an_law38_light : Ann := ⟨[1, 2], [], [], [], [], some [2], [], [], [], []⟩
@[simp] theorem an_law38_light_draws : an_law38_light.draws = [] := rfl
@[simp] theorem an_law38_light_exits : an_law38_light.exits = [] := rfl
@[simp] theorem an_law38_light_rets : an_law38_light.rets = some [2] := rfl
@[simp] theorem an_law38_light_keep : an_law38_light.keep = [1, 2] := rfl
@[simp] theorem an_law38_light_cond : an_law38_light.cond = [] := rfl
@[simp] theorem an_law38_light_rows : an_law38_light.rows = [] := rfl
@[simp] theorem an_law38_light_loops : an_law38_light.loops = [] := rfl
@[simp] theorem an_law38_light_ecalls : an_law38_light.ecalls = [] := rfl
@[simp] theorem an_law38_light_crows : an_law38_light.crows = [] := rfl
@[simp] theorem an_law38_light_tails : an_law38_light.tails = [] := rfl
@[simp] noncomputable def cl_law38_light : List (Nat × (List D → Option D)) := []
@[simp] noncomputable def ce_law38_light : List (Nat × (List (Nat × O) → List D → Option (D × List (Nat × O)))) := []
noncomputable def c_law38_light : CT := ⟨callOf (cl_law38_light ), callOfE ce_law38_light, gl⟩
@[simp] theorem c_law38_light_p (f : FuncId) (ds : List D) : c_law38_light.p f ds = callOf (cl_law38_light ) f ds := Eq.trans rfl rfl
@[simp] theorem c_law38_light_e (f : FuncId) (hs : List (Nat × O)) (ds : List D) : c_law38_light.e f hs ds = callOfE ce_law38_light f hs ds := Eq.trans rfl rfl
@[simp] theorem c_law38_light_g (g : Nat) : c_law38_light.g g = gl g := Eq.trans rfl rfl
noncomputable def L_law38_light (i n : Nat) (s : St) : Option (E × St) := atN Tryd.prog c_law38_light an_law38_light 40 (bodyOf Tryd.f8) i n s
noncomputable def H_law38_light (n i : Nat) (s : St) : Option (E × St) := atH Tryd.prog c_law38_light an_law38_light 40 (bodyOf Tryd.f8) n i s
@[simp] theorem H_law38_light_eq (n i : Nat) (s : St) : H_law38_light n i s = L_law38_light i n (headOf (an_law38_light.loops.lookup i) s) := rfl
noncomputable def R_law38_light (i : Nat) (s : St) : Option (E × St) := stepL Tryd.prog c_law38_light an_law38_light 40 (bodyOf Tryd.f8) i s
theorem lok_law38_light : okLoops (bodyOf Tryd.f8) = true := by kernel_rfl
noncomputable def F_law38_light (ds : List D) : Option D := runF Tryd.prog c_law38_light an_law38_light 40 (bodyOf Tryd.f8) [.tmp 2] ds
theorem F_law38_light_eq (ds : List D) : F_law38_light ds = runG Tryd.prog c_law38_light (H_law38_light bigL) an_law38_light 40 (bodyOf Tryd.f8) [.tmp 2] ds := runG_eq lok_law38_light _ ds
theorem C_law38_light (ds : List D) (r : D) (h : F_law38_light ds = some r) : Contract Tryd.prog gl 8 ds r := contract_of mix Tryd.func8 rfl (by kernel_rfl) (by kernel_rfl) (by decide) (call := c_law38_light) ⟨callOf_ok cl_law38_light trivial, callOfE_ok ce_law38_light trivial⟩ h
-- sawmill/ident.isSmall: loops []; state: params 0..0, then [2]
attribute [simp] Tryd.f60
noncomputable def an_ident_isSmall : Ann := ⟨[2], [], [], [], [], some [2], [], [], [], []⟩
@[simp] theorem an_ident_isSmall_draws : an_ident_isSmall.draws = [] := rfl
@[simp] theorem an_ident_isSmall_exits : an_ident_isSmall.exits = [] := rfl
@[simp] theorem an_ident_isSmall_rets : an_ident_isSmall.rets = some [2] := rfl
@[simp] theorem an_ident_isSmall_keep : an_ident_isSmall.keep = [2] := rfl
@[simp] theorem an_ident_isSmall_cond : an_ident_isSmall.cond = [] := rfl
@[simp] theorem an_ident_isSmall_rows : an_ident_isSmall.rows = [] := rfl
@[simp] theorem an_ident_isSmall_loops : an_ident_isSmall.loops = [] := rfl
@[simp] theorem an_ident_isSmall_ecalls : an_ident_isSmall.ecalls = [] := rfl
@[simp] theorem an_ident_isSmall_crows : an_ident_isSmall.crows = [] := rfl
@[simp] theorem an_ident_isSmall_tails : an_ident_isSmall.tails = [] := rfl
@[simp] noncomputable def cl_ident_isSmall : List (Nat × (List D → Option D)) := []
@[simp] noncomputable def ce_ident_isSmall : List (Nat × (List (Nat × O) → List D → Option (D × List (Nat × O)))) := []
noncomputable def c_ident_isSmall : CT := ⟨callOf (cl_ident_isSmall ), callOfE ce_ident_isSmall, gl⟩
@[simp] theorem c_ident_isSmall_p (f : FuncId) (ds : List D) : c_ident_isSmall.p f ds = callOf (cl_ident_isSmall ) f ds := Eq.trans rfl rfl
@[simp] theorem c_ident_isSmall_e (f : FuncId) (hs : List (Nat × O)) (ds : List D) : c_ident_isSmall.e f hs ds = callOfE ce_ident_isSmall f hs ds := Eq.trans rfl rfl
@[simp] theorem c_ident_isSmall_g (g : Nat) : c_ident_isSmall.g g = gl g := Eq.trans rfl rfl
noncomputable def L_ident_isSmall (i n : Nat) (s : St) : Option (E × St) := atN Tryd.prog c_ident_isSmall an_ident_isSmall 9 (bodyOf Tryd.f60) i n s
noncomputable def H_ident_isSmall (n i : Nat) (s : St) : Option (E × St) := atH Tryd.prog c_ident_isSmall an_ident_isSmall 9 (bodyOf Tryd.f60) n i s
@[simp] theorem H_ident_isSmall_eq (n i : Nat) (s : St) : H_ident_isSmall n i s = L_ident_isSmall i n (headOf (an_ident_isSmall.loops.lookup i) s) := rfl
noncomputable def R_ident_isSmall (i : Nat) (s : St) : Option (E × St) := stepL Tryd.prog c_ident_isSmall an_ident_isSmall 9 (bodyOf Tryd.f60) i s
theorem lok_ident_isSmall : okLoops (bodyOf Tryd.f60) = true := by kernel_rfl
noncomputable def F_ident_isSmall (ds : List D) : Option D := runF Tryd.prog c_ident_isSmall an_ident_isSmall 9 (bodyOf Tryd.f60) [.tmp 2] ds
theorem F_ident_isSmall_eq (ds : List D) : F_ident_isSmall ds = runG Tryd.prog c_ident_isSmall (H_ident_isSmall bigL) an_ident_isSmall 9 (bodyOf Tryd.f60) [.tmp 2] ds := runG_eq lok_ident_isSmall _ ds
theorem C_ident_isSmall (ds : List D) (r : D) (h : F_ident_isSmall ds = some r) : Contract Tryd.prog gl 60 ds r := contract_of mix Tryd.func60 rfl (by kernel_rfl) (by kernel_rfl) (by decide) (call := c_ident_isSmall) ⟨callOf_ok cl_ident_isSmall trivial, callOfE_ok ce_ident_isSmall trivial⟩ h
-- sawmill/ident.isDigit: loops []; state: params 0..0, then [2]
attribute [simp] Tryd.f61
noncomputable def an_ident_isDigit : Ann := ⟨[2], [], [], [], [], some [2], [], [], [], []⟩
@[simp] theorem an_ident_isDigit_draws : an_ident_isDigit.draws = [] := rfl
@[simp] theorem an_ident_isDigit_exits : an_ident_isDigit.exits = [] := rfl
@[simp] theorem an_ident_isDigit_rets : an_ident_isDigit.rets = some [2] := rfl
@[simp] theorem an_ident_isDigit_keep : an_ident_isDigit.keep = [2] := rfl
@[simp] theorem an_ident_isDigit_cond : an_ident_isDigit.cond = [] := rfl
@[simp] theorem an_ident_isDigit_rows : an_ident_isDigit.rows = [] := rfl
@[simp] theorem an_ident_isDigit_loops : an_ident_isDigit.loops = [] := rfl
@[simp] theorem an_ident_isDigit_ecalls : an_ident_isDigit.ecalls = [] := rfl
@[simp] theorem an_ident_isDigit_crows : an_ident_isDigit.crows = [] := rfl
@[simp] theorem an_ident_isDigit_tails : an_ident_isDigit.tails = [] := rfl
@[simp] noncomputable def cl_ident_isDigit : List (Nat × (List D → Option D)) := []
@[simp] noncomputable def ce_ident_isDigit : List (Nat × (List (Nat × O) → List D → Option (D × List (Nat × O)))) := []
noncomputable def c_ident_isDigit : CT := ⟨callOf (cl_ident_isDigit ), callOfE ce_ident_isDigit, gl⟩
@[simp] theorem c_ident_isDigit_p (f : FuncId) (ds : List D) : c_ident_isDigit.p f ds = callOf (cl_ident_isDigit ) f ds := Eq.trans rfl rfl
@[simp] theorem c_ident_isDigit_e (f : FuncId) (hs : List (Nat × O)) (ds : List D) : c_ident_isDigit.e f hs ds = callOfE ce_ident_isDigit f hs ds := Eq.trans rfl rfl
@[simp] theorem c_ident_isDigit_g (g : Nat) : c_ident_isDigit.g g = gl g := Eq.trans rfl rfl
noncomputable def L_ident_isDigit (i n : Nat) (s : St) : Option (E × St) := atN Tryd.prog c_ident_isDigit an_ident_isDigit 9 (bodyOf Tryd.f61) i n s
noncomputable def H_ident_isDigit (n i : Nat) (s : St) : Option (E × St) := atH Tryd.prog c_ident_isDigit an_ident_isDigit 9 (bodyOf Tryd.f61) n i s
@[simp] theorem H_ident_isDigit_eq (n i : Nat) (s : St) : H_ident_isDigit n i s = L_ident_isDigit i n (headOf (an_ident_isDigit.loops.lookup i) s) := rfl
noncomputable def R_ident_isDigit (i : Nat) (s : St) : Option (E × St) := stepL Tryd.prog c_ident_isDigit an_ident_isDigit 9 (bodyOf Tryd.f61) i s
theorem lok_ident_isDigit : okLoops (bodyOf Tryd.f61) = true := by kernel_rfl
noncomputable def F_ident_isDigit (ds : List D) : Option D := runF Tryd.prog c_ident_isDigit an_ident_isDigit 9 (bodyOf Tryd.f61) [.tmp 2] ds
theorem F_ident_isDigit_eq (ds : List D) : F_ident_isDigit ds = runG Tryd.prog c_ident_isDigit (H_ident_isDigit bigL) an_ident_isDigit 9 (bodyOf Tryd.f61) [.tmp 2] ds := runG_eq lok_ident_isDigit _ ds
theorem C_ident_isDigit (ds : List D) (r : D) (h : F_ident_isDigit ds = some r) : Contract Tryd.prog gl 61 ds r := contract_of mix Tryd.func61 rfl (by kernel_rfl) (by kernel_rfl) (by decide) (call := c_ident_isDigit) ⟨callOf_ok cl_ident_isDigit trivial, callOfE_ok ce_ident_isDigit trivial⟩ h
-- sawmill/ident.IsName: loops [4]; state: params 0..0, then [2, 3, 4]
attribute [simp] Tryd.f50
noncomputable def an_ident_IsName : Ann := ⟨[0, 2, 3, 4], [18, 22, 39], [], [(4, [0, 3])], [(0, []), (1, [0, 3])], some [2], [], [], [], []⟩
@[simp] theorem an_ident_IsName_draws : an_ident_IsName.draws = [] := rfl
@[simp] theorem an_ident_IsName_exits : an_ident_IsName.exits = [(0, []), (1, [0, 3])] := rfl
@[simp] theorem an_ident_IsName_rets : an_ident_IsName.rets = some [2] := rfl
@[simp] theorem an_ident_IsName_keep : an_ident_IsName.keep = [0, 2, 3, 4] := rfl
@[simp] theorem an_ident_IsName_cond : an_ident_IsName.cond = [18, 22, 39] := rfl
@[simp] theorem an_ident_IsName_rows : an_ident_IsName.rows = [] := rfl
@[simp] theorem an_ident_IsName_loops : an_ident_IsName.loops = [(4, [0, 3])] := rfl
@[simp] theorem an_ident_IsName_ecalls : an_ident_IsName.ecalls = [] := rfl
@[simp] theorem an_ident_IsName_crows : an_ident_IsName.crows = [] := rfl
@[simp] theorem an_ident_IsName_tails : an_ident_IsName.tails = [] := rfl
@[simp] noncomputable def cl_ident_IsName : List (Nat × (List D → Option D)) := [(60, F_ident_isSmall), (61, F_ident_isDigit)]
@[simp] noncomputable def ce_ident_IsName : List (Nat × (List (Nat × O) → List D → Option (D × List (Nat × O)))) := []
noncomputable def c_ident_IsName : CT := ⟨callOf (cl_ident_IsName ), callOfE ce_ident_IsName, gl⟩
@[simp] theorem c_ident_IsName_p (f : FuncId) (ds : List D) : c_ident_IsName.p f ds = callOf (cl_ident_IsName ) f ds := Eq.trans rfl rfl
@[simp] theorem c_ident_IsName_e (f : FuncId) (hs : List (Nat × O)) (ds : List D) : c_ident_IsName.e f hs ds = callOfE ce_ident_IsName f hs ds := Eq.trans rfl rfl
@[simp] theorem c_ident_IsName_g (g : Nat) : c_ident_IsName.g g = gl g := Eq.trans rfl rfl
noncomputable def L_ident_IsName (i n : Nat) (s : St) : Option (E × St) := atN Tryd.prog c_ident_IsName an_ident_IsName 40 (bodyOf Tryd.f50) i n s
noncomputable def H_ident_IsName (n i : Nat) (s : St) : Option (E × St) := atH Tryd.prog c_ident_IsName an_ident_IsName 40 (bodyOf Tryd.f50) n i s
@[simp] theorem H_ident_IsName_eq (n i : Nat) (s : St) : H_ident_IsName n i s = L_ident_IsName i n (headOf (an_ident_IsName.loops.lookup i) s) := rfl
noncomputable def R_ident_IsName (i : Nat) (s : St) : Option (E × St) := stepL Tryd.prog c_ident_IsName an_ident_IsName 40 (bodyOf Tryd.f50) i s
theorem lok_ident_IsName : okLoops (bodyOf Tryd.f50) = true := by kernel_rfl
theorem L_ident_IsName_zero (i : Nat) (s : St) : L_ident_IsName i 0 s = none := rfl
theorem L_ident_IsName_succ (i n : Nat) (s : St) : L_ident_IsName i (n + 1) s = andThen (R_ident_IsName i s) (H_ident_IsName n i) := atN_succ lok_ident_IsName i n s
theorem R_ident_IsName_eq (i : Nat) (s : St) : R_ident_IsName i s = runS Tryd.prog c_ident_IsName (H_ident_IsName bigL) an_ident_IsName 40 (loopAt (bodyOf Tryd.f50) i) s := rfl
noncomputable def F_ident_IsName (ds : List D) : Option D := runF Tryd.prog c_ident_IsName an_ident_IsName 40 (bodyOf Tryd.f50) [.tmp 2] ds
theorem F_ident_IsName_eq (ds : List D) : F_ident_IsName ds = runG Tryd.prog c_ident_IsName (H_ident_IsName bigL) an_ident_IsName 40 (bodyOf Tryd.f50) [.tmp 2] ds := runG_eq lok_ident_IsName _ ds
theorem C_ident_IsName (ds : List D) (r : D) (h : F_ident_IsName ds = some r) : Contract Tryd.prog gl 50 ds r := contract_of mix Tryd.func50 rfl (by kernel_rfl) (by kernel_rfl) (by decide) (call := c_ident_IsName) ⟨callOf_ok cl_ident_IsName ⟨C_ident_isSmall, C_ident_isDigit, trivial⟩, callOfE_ok ce_ident_IsName trivial⟩ h
-- sawmill/schedule.sound: loops []; state: params 0..0, then [1, 2]
attribute [simp] Tryd.f51
noncomputable def an_schedule_sound : Ann := ⟨[1, 2], [], [], [], [], some [2], [], [], [], []⟩
@[simp] theorem an_schedule_sound_draws : an_schedule_sound.draws = [] := rfl
@[simp] theorem an_schedule_sound_exits : an_schedule_sound.exits = [] := rfl
@[simp] theorem an_schedule_sound_rets : an_schedule_sound.rets = some [2] := rfl
@[simp] theorem an_schedule_sound_keep : an_schedule_sound.keep = [1, 2] := rfl
@[simp] theorem an_schedule_sound_cond : an_schedule_sound.cond = [] := rfl
@[simp] theorem an_schedule_sound_rows : an_schedule_sound.rows = [] := rfl
@[simp] theorem an_schedule_sound_loops : an_schedule_sound.loops = [] := rfl
@[simp] theorem an_schedule_sound_ecalls : an_schedule_sound.ecalls = [] := rfl
@[simp] theorem an_schedule_sound_crows : an_schedule_sound.crows = [] := rfl
@[simp] theorem an_schedule_sound_tails : an_schedule_sound.tails = [] := rfl
@[simp] noncomputable def cl_schedule_sound : List (Nat × (List D → Option D)) := []
@[simp] noncomputable def ce_schedule_sound : List (Nat × (List (Nat × O) → List D → Option (D × List (Nat × O)))) := []
noncomputable def c_schedule_sound : CT := ⟨callOf (cl_schedule_sound ), callOfE ce_schedule_sound, gl⟩
@[simp] theorem c_schedule_sound_p (f : FuncId) (ds : List D) : c_schedule_sound.p f ds = callOf (cl_schedule_sound ) f ds := Eq.trans rfl rfl
@[simp] theorem c_schedule_sound_e (f : FuncId) (hs : List (Nat × O)) (ds : List D) : c_schedule_sound.e f hs ds = callOfE ce_schedule_sound f hs ds := Eq.trans rfl rfl
@[simp] theorem c_schedule_sound_g (g : Nat) : c_schedule_sound.g g = gl g := Eq.trans rfl rfl
noncomputable def L_schedule_sound (i n : Nat) (s : St) : Option (E × St) := atN Tryd.prog c_schedule_sound an_schedule_sound 51 (bodyOf Tryd.f51) i n s
noncomputable def H_schedule_sound (n i : Nat) (s : St) : Option (E × St) := atH Tryd.prog c_schedule_sound an_schedule_sound 51 (bodyOf Tryd.f51) n i s
@[simp] theorem H_schedule_sound_eq (n i : Nat) (s : St) : H_schedule_sound n i s = L_schedule_sound i n (headOf (an_schedule_sound.loops.lookup i) s) := rfl
noncomputable def R_schedule_sound (i : Nat) (s : St) : Option (E × St) := stepL Tryd.prog c_schedule_sound an_schedule_sound 51 (bodyOf Tryd.f51) i s
theorem lok_schedule_sound : okLoops (bodyOf Tryd.f51) = true := by kernel_rfl
noncomputable def F_schedule_sound (ds : List D) : Option D := runF Tryd.prog c_schedule_sound an_schedule_sound 51 (bodyOf Tryd.f51) [.tmp 2] ds
theorem F_schedule_sound_eq (ds : List D) : F_schedule_sound ds = runG Tryd.prog c_schedule_sound (H_schedule_sound bigL) an_schedule_sound 51 (bodyOf Tryd.f51) [.tmp 2] ds := runG_eq lok_schedule_sound _ ds
theorem C_schedule_sound (ds : List D) (r : D) (h : F_schedule_sound ds = some r) : Contract Tryd.prog gl 51 ds r := contract_of mix Tryd.func51 rfl (by kernel_rfl) (by kernel_rfl) (by decide) (call := c_schedule_sound) ⟨callOf_ok cl_schedule_sound trivial, callOfE_ok ce_schedule_sound trivial⟩ h
-- sawmill/schedule.Check: loops [10]; state: params 0..0, then [1, 2, 4, 26, 27, 28]
attribute [simp] Tryd.f39
noncomputable def an_schedule_Check : Ann := ⟨[1, 2, 4, 26, 27, 28], [8, 16, 20, 24, 29, 34], [], [(10, [26, 27, 28])], [(0, []), (1, [26, 27, 28])], some [2], [], [], [], []⟩
@[simp] theorem an_schedule_Check_draws : an_schedule_Check.draws = [] := rfl
@[simp] theorem an_schedule_Check_exits : an_schedule_Check.exits = [(0, []), (1, [26, 27, 28])] := rfl
@[simp] theorem an_schedule_Check_rets : an_schedule_Check.rets = some [2] := rfl
@[simp] theorem an_schedule_Check_keep : an_schedule_Check.keep = [1, 2, 4, 26, 27, 28] := rfl
@[simp] theorem an_schedule_Check_cond : an_schedule_Check.cond = [8, 16, 20, 24, 29, 34] := rfl
@[simp] theorem an_schedule_Check_rows : an_schedule_Check.rows = [] := rfl
@[simp] theorem an_schedule_Check_loops : an_schedule_Check.loops = [(10, [26, 27, 28])] := rfl
@[simp] theorem an_schedule_Check_ecalls : an_schedule_Check.ecalls = [] := rfl
@[simp] theorem an_schedule_Check_crows : an_schedule_Check.crows = [] := rfl
@[simp] theorem an_schedule_Check_tails : an_schedule_Check.tails = [] := rfl
@[simp] noncomputable def cl_schedule_Check : List (Nat × (List D → Option D)) := [(50, F_ident_IsName), (51, F_schedule_sound)]
@[simp] noncomputable def ce_schedule_Check : List (Nat × (List (Nat × O) → List D → Option (D × List (Nat × O)))) := []
noncomputable def c_schedule_Check : CT := ⟨callOf (cl_schedule_Check ), callOfE ce_schedule_Check, gl⟩
@[simp] theorem c_schedule_Check_p (f : FuncId) (ds : List D) : c_schedule_Check.p f ds = callOf (cl_schedule_Check ) f ds := Eq.trans rfl rfl
@[simp] theorem c_schedule_Check_e (f : FuncId) (hs : List (Nat × O)) (ds : List D) : c_schedule_Check.e f hs ds = callOfE ce_schedule_Check f hs ds := Eq.trans rfl rfl
@[simp] theorem c_schedule_Check_g (g : Nat) : c_schedule_Check.g g = gl g := Eq.trans rfl rfl
noncomputable def L_schedule_Check (i n : Nat) (s : St) : Option (E × St) := atN Tryd.prog c_schedule_Check an_schedule_Check 36 (bodyOf Tryd.f39) i n s
noncomputable def H_schedule_Check (n i : Nat) (s : St) : Option (E × St) := atH Tryd.prog c_schedule_Check an_schedule_Check 36 (bodyOf Tryd.f39) n i s
@[simp] theorem H_schedule_Check_eq (n i : Nat) (s : St) : H_schedule_Check n i s = L_schedule_Check i n (headOf (an_schedule_Check.loops.lookup i) s) := rfl
noncomputable def R_schedule_Check (i : Nat) (s : St) : Option (E × St) := stepL Tryd.prog c_schedule_Check an_schedule_Check 36 (bodyOf Tryd.f39) i s
theorem lok_schedule_Check : okLoops (bodyOf Tryd.f39) = true := by kernel_rfl
theorem L_schedule_Check_zero (i : Nat) (s : St) : L_schedule_Check i 0 s = none := rfl
theorem L_schedule_Check_succ (i n : Nat) (s : St) : L_schedule_Check i (n + 1) s = andThen (R_schedule_Check i s) (H_schedule_Check n i) := atN_succ lok_schedule_Check i n s
theorem R_schedule_Check_eq (i : Nat) (s : St) : R_schedule_Check i s = runS Tryd.prog c_schedule_Check (H_schedule_Check bigL) an_schedule_Check 36 (loopAt (bodyOf Tryd.f39) i) s := rfl
noncomputable def F_schedule_Check (ds : List D) : Option D := runF Tryd.prog c_schedule_Check an_schedule_Check 36 (bodyOf Tryd.f39) [.tmp 2] ds
theorem F_schedule_Check_eq (ds : List D) : F_schedule_Check ds = runG Tryd.prog c_schedule_Check (H_schedule_Check bigL) an_schedule_Check 36 (bodyOf Tryd.f39) [.tmp 2] ds := runG_eq lok_schedule_Check _ ds
theorem C_schedule_Check (ds : List D) (r : D) (h : F_schedule_Check ds = some r) : Contract Tryd.prog gl 39 ds r := contract_of mix Tryd.func39 rfl (by kernel_rfl) (by kernel_rfl) (by decide) (call := c_schedule_Check) ⟨callOf_ok cl_schedule_Check ⟨C_ident_IsName, C_schedule_sound, trivial⟩, callOfE_ok ce_schedule_Check trivial⟩ h
-- sawmill/wood.Find: loops [2]; state: params 0..1, then [4, 5, 7, 8, 9, 10]
attribute [simp] Tryd.f52
noncomputable def an_wood_Find : Ann := ⟨[4, 5, 7, 8, 9, 10], [11, 17], [], [(2, [1, 4, 8, 9, 10])], [(0, [4]), (1, [1, 4, 8, 9, 10])], some [4, 5], [], [], [], []⟩
@[simp] theorem an_wood_Find_draws : an_wood_Find.draws = [] := rfl
@[simp] theorem an_wood_Find_exits : an_wood_Find.exits = [(0, [4]), (1, [1, 4, 8, 9, 10])] := rfl
@[simp] theorem an_wood_Find_rets : an_wood_Find.rets = some [4, 5] := rfl
@[simp] theorem an_wood_Find_keep : an_wood_Find.keep = [4, 5, 7, 8, 9, 10] := rfl
@[simp] theorem an_wood_Find_cond : an_wood_Find.cond = [11, 17] := rfl
@[simp] theorem an_wood_Find_rows : an_wood_Find.rows = [] := rfl
@[simp] theorem an_wood_Find_loops : an_wood_Find.loops = [(2, [1, 4, 8, 9, 10])] := rfl
@[simp] theorem an_wood_Find_ecalls : an_wood_Find.ecalls = [] := rfl
@[simp] theorem an_wood_Find_crows : an_wood_Find.crows = [] := rfl
@[simp] theorem an_wood_Find_tails : an_wood_Find.tails = [] := rfl
@[simp] noncomputable def cl_wood_Find : List (Nat × (List D → Option D)) := []
@[simp] noncomputable def ce_wood_Find : List (Nat × (List (Nat × O) → List D → Option (D × List (Nat × O)))) := []
noncomputable def c_wood_Find : CT := ⟨callOf (cl_wood_Find ), callOfE ce_wood_Find, gl⟩
@[simp] theorem c_wood_Find_p (f : FuncId) (ds : List D) : c_wood_Find.p f ds = callOf (cl_wood_Find ) f ds := Eq.trans rfl rfl
@[simp] theorem c_wood_Find_e (f : FuncId) (hs : List (Nat × O)) (ds : List D) : c_wood_Find.e f hs ds = callOfE ce_wood_Find f hs ds := Eq.trans rfl rfl
@[simp] theorem c_wood_Find_g (g : Nat) : c_wood_Find.g g = gl g := Eq.trans rfl rfl
noncomputable def L_wood_Find (i n : Nat) (s : St) : Option (E × St) := atN Tryd.prog c_wood_Find an_wood_Find 21 (bodyOf Tryd.f52) i n s
noncomputable def H_wood_Find (n i : Nat) (s : St) : Option (E × St) := atH Tryd.prog c_wood_Find an_wood_Find 21 (bodyOf Tryd.f52) n i s
@[simp] theorem H_wood_Find_eq (n i : Nat) (s : St) : H_wood_Find n i s = L_wood_Find i n (headOf (an_wood_Find.loops.lookup i) s) := rfl
noncomputable def R_wood_Find (i : Nat) (s : St) : Option (E × St) := stepL Tryd.prog c_wood_Find an_wood_Find 21 (bodyOf Tryd.f52) i s
theorem lok_wood_Find : okLoops (bodyOf Tryd.f52) = true := by kernel_rfl
theorem L_wood_Find_zero (i : Nat) (s : St) : L_wood_Find i 0 s = none := rfl
theorem L_wood_Find_succ (i n : Nat) (s : St) : L_wood_Find i (n + 1) s = andThen (R_wood_Find i s) (H_wood_Find n i) := atN_succ lok_wood_Find i n s
theorem R_wood_Find_eq (i : Nat) (s : St) : R_wood_Find i s = runS Tryd.prog c_wood_Find (H_wood_Find bigL) an_wood_Find 21 (loopAt (bodyOf Tryd.f52) i) s := rfl
noncomputable def F_wood_Find (ds : List D) : Option D := runF Tryd.prog c_wood_Find an_wood_Find 21 (bodyOf Tryd.f52) [.cell 4 26, .tmp 5] ds
theorem F_wood_Find_eq (ds : List D) : F_wood_Find ds = runG Tryd.prog c_wood_Find (H_wood_Find bigL) an_wood_Find 21 (bodyOf Tryd.f52) [.cell 4 26, .tmp 5] ds := runG_eq lok_wood_Find _ ds
theorem C_wood_Find (ds : List D) (r : D) (h : F_wood_Find ds = some r) : Contract Tryd.prog gl 52 ds r := contract_of mix Tryd.func52 rfl (by kernel_rfl) (by kernel_rfl) (by decide) (call := c_wood_Find) ⟨callOf_ok cl_wood_Find trivial, callOfE_ok ce_wood_Find trivial⟩ h
-- sawmill/wood.numbers: loops []; state: params 0..0, then [1, 2]
attribute [simp] Tryd.f62
noncomputable def an_wood_numbers : Ann := ⟨[1, 2], [], [], [], [], some [2], [], [], [], []⟩
@[simp] theorem an_wood_numbers_draws : an_wood_numbers.draws = [] := rfl
@[simp] theorem an_wood_numbers_exits : an_wood_numbers.exits = [] := rfl
@[simp] theorem an_wood_numbers_rets : an_wood_numbers.rets = some [2] := rfl
@[simp] theorem an_wood_numbers_keep : an_wood_numbers.keep = [1, 2] := rfl
@[simp] theorem an_wood_numbers_cond : an_wood_numbers.cond = [] := rfl
@[simp] theorem an_wood_numbers_rows : an_wood_numbers.rows = [] := rfl
@[simp] theorem an_wood_numbers_loops : an_wood_numbers.loops = [] := rfl
@[simp] theorem an_wood_numbers_ecalls : an_wood_numbers.ecalls = [] := rfl
@[simp] theorem an_wood_numbers_crows : an_wood_numbers.crows = [] := rfl
@[simp] theorem an_wood_numbers_tails : an_wood_numbers.tails = [] := rfl
@[simp] noncomputable def cl_wood_numbers : List (Nat × (List D → Option D)) := []
@[simp] noncomputable def ce_wood_numbers : List (Nat × (List (Nat × O) → List D → Option (D × List (Nat × O)))) := []
noncomputable def c_wood_numbers : CT := ⟨callOf (cl_wood_numbers ), callOfE ce_wood_numbers, gl⟩
@[simp] theorem c_wood_numbers_p (f : FuncId) (ds : List D) : c_wood_numbers.p f ds = callOf (cl_wood_numbers ) f ds := Eq.trans rfl rfl
@[simp] theorem c_wood_numbers_e (f : FuncId) (hs : List (Nat × O)) (ds : List D) : c_wood_numbers.e f hs ds = callOfE ce_wood_numbers f hs ds := Eq.trans rfl rfl
@[simp] theorem c_wood_numbers_g (g : Nat) : c_wood_numbers.g g = gl g := Eq.trans rfl rfl
noncomputable def L_wood_numbers (i n : Nat) (s : St) : Option (E × St) := atN Tryd.prog c_wood_numbers an_wood_numbers 28 (bodyOf Tryd.f62) i n s
noncomputable def H_wood_numbers (n i : Nat) (s : St) : Option (E × St) := atH Tryd.prog c_wood_numbers an_wood_numbers 28 (bodyOf Tryd.f62) n i s
@[simp] theorem H_wood_numbers_eq (n i : Nat) (s : St) : H_wood_numbers n i s = L_wood_numbers i n (headOf (an_wood_numbers.loops.lookup i) s) := rfl
noncomputable def R_wood_numbers (i : Nat) (s : St) : Option (E × St) := stepL Tryd.prog c_wood_numbers an_wood_numbers 28 (bodyOf Tryd.f62) i s
theorem lok_wood_numbers : okLoops (bodyOf Tryd.f62) = true := by kernel_rfl
noncomputable def F_wood_numbers (ds : List D) : Option D := runF Tryd.prog c_wood_numbers an_wood_numbers 28 (bodyOf Tryd.f62) [.cell 2 99] ds
theorem F_wood_numbers_eq (ds : List D) : F_wood_numbers ds = runG Tryd.prog c_wood_numbers (H_wood_numbers bigL) an_wood_numbers 28 (bodyOf Tryd.f62) [.cell 2 99] ds := runG_eq lok_wood_numbers _ ds
theorem C_wood_numbers (ds : List D) (r : D) (h : F_wood_numbers ds = some r) : Contract Tryd.prog gl 62 ds r := contract_of mix Tryd.func62 rfl (by kernel_rfl) (by kernel_rfl) (by decide) (call := c_wood_numbers) ⟨callOf_ok cl_wood_numbers trivial, callOfE_ok ce_wood_numbers trivial⟩ h
-- sawmill/wood.inRange: loops [3]; state: params 0..0, then [1, 2, 3, 4, 5, 24, 25]
attribute [simp] Tryd.f53
noncomputable def an_wood_inRange : Ann := ⟨[1, 2, 3, 4, 5, 24, 25], [26, 42], [], [(3, [3, 24, 25])], [(0, []), (1, [3, 24, 25])], some [2], [], [], [], []⟩
@[simp] theorem an_wood_inRange_draws : an_wood_inRange.draws = [] := rfl
@[simp] theorem an_wood_inRange_exits : an_wood_inRange.exits = [(0, []), (1, [3, 24, 25])] := rfl
@[simp] theorem an_wood_inRange_rets : an_wood_inRange.rets = some [2] := rfl
@[simp] theorem an_wood_inRange_keep : an_wood_inRange.keep = [1, 2, 3, 4, 5, 24, 25] := rfl
@[simp] theorem an_wood_inRange_cond : an_wood_inRange.cond = [26, 42] := rfl
@[simp] theorem an_wood_inRange_rows : an_wood_inRange.rows = [] := rfl
@[simp] theorem an_wood_inRange_loops : an_wood_inRange.loops = [(3, [3, 24, 25])] := rfl
@[simp] theorem an_wood_inRange_ecalls : an_wood_inRange.ecalls = [] := rfl
@[simp] theorem an_wood_inRange_crows : an_wood_inRange.crows = [] := rfl
@[simp] theorem an_wood_inRange_tails : an_wood_inRange.tails = [] := rfl
@[simp] noncomputable def cl_wood_inRange : List (Nat × (List D → Option D)) := [(62, F_wood_numbers)]
@[simp] noncomputable def ce_wood_inRange : List (Nat × (List (Nat × O) → List D → Option (D × List (Nat × O)))) := []
noncomputable def c_wood_inRange : CT := ⟨callOf (cl_wood_inRange ), callOfE ce_wood_inRange, gl⟩
@[simp] theorem c_wood_inRange_p (f : FuncId) (ds : List D) : c_wood_inRange.p f ds = callOf (cl_wood_inRange ) f ds := Eq.trans rfl rfl
@[simp] theorem c_wood_inRange_e (f : FuncId) (hs : List (Nat × O)) (ds : List D) : c_wood_inRange.e f hs ds = callOfE ce_wood_inRange f hs ds := Eq.trans rfl rfl
@[simp] theorem c_wood_inRange_g (g : Nat) : c_wood_inRange.g g = gl g := Eq.trans rfl rfl
noncomputable def L_wood_inRange (i n : Nat) (s : St) : Option (E × St) := atN Tryd.prog c_wood_inRange an_wood_inRange 44 (bodyOf Tryd.f53) i n s
noncomputable def H_wood_inRange (n i : Nat) (s : St) : Option (E × St) := atH Tryd.prog c_wood_inRange an_wood_inRange 44 (bodyOf Tryd.f53) n i s
@[simp] theorem H_wood_inRange_eq (n i : Nat) (s : St) : H_wood_inRange n i s = L_wood_inRange i n (headOf (an_wood_inRange.loops.lookup i) s) := rfl
noncomputable def R_wood_inRange (i : Nat) (s : St) : Option (E × St) := stepL Tryd.prog c_wood_inRange an_wood_inRange 44 (bodyOf Tryd.f53) i s
theorem lok_wood_inRange : okLoops (bodyOf Tryd.f53) = true := by kernel_rfl
theorem L_wood_inRange_zero (i : Nat) (s : St) : L_wood_inRange i 0 s = none := rfl
theorem L_wood_inRange_succ (i n : Nat) (s : St) : L_wood_inRange i (n + 1) s = andThen (R_wood_inRange i s) (H_wood_inRange n i) := atN_succ lok_wood_inRange i n s
theorem R_wood_inRange_eq (i : Nat) (s : St) : R_wood_inRange i s = runS Tryd.prog c_wood_inRange (H_wood_inRange bigL) an_wood_inRange 44 (loopAt (bodyOf Tryd.f53) i) s := rfl
noncomputable def F_wood_inRange (ds : List D) : Option D := runF Tryd.prog c_wood_inRange an_wood_inRange 44 (bodyOf Tryd.f53) [.tmp 2] ds
theorem F_wood_inRange_eq (ds : List D) : F_wood_inRange ds = runG Tryd.prog c_wood_inRange (H_wood_inRange bigL) an_wood_inRange 44 (bodyOf Tryd.f53) [.tmp 2] ds := runG_eq lok_wood_inRange _ ds
theorem C_wood_inRange (ds : List D) (r : D) (h : F_wood_inRange ds = some r) : Contract Tryd.prog gl 53 ds r := contract_of mix Tryd.func53 rfl (by kernel_rfl) (by kernel_rfl) (by decide) (call := c_wood_inRange) ⟨callOf_ok cl_wood_inRange ⟨C_wood_numbers, trivial⟩, callOfE_ok ce_wood_inRange trivial⟩ h
-- sawmill/wood.Check: loops [4]; state: params 0..0, then [2, 3, 4, 6, 10, 11, 12]
attribute [simp] Tryd.f40
noncomputable def an_wood_Check : Ann := ⟨[0, 2, 3, 4, 6, 10, 11, 12], [9, 13, 20, 30, 33], [], [(4, [0, 10, 11, 12])], [(0, []), (1, [0, 10, 11, 12])], some [2], [(8, 11)], [], [], []⟩
@[simp] theorem an_wood_Check_draws : an_wood_Check.draws = [(8, 11)] := rfl
@[simp] theorem an_wood_Check_exits : an_wood_Check.exits = [(0, []), (1, [0, 10, 11, 12])] := rfl
@[simp] theorem an_wood_Check_rets : an_wood_Check.rets = some [2] := rfl
@[simp] theorem an_wood_Check_keep : an_wood_Check.keep = [0, 2, 3, 4, 6, 10, 11, 12] := rfl
@[simp] theorem an_wood_Check_cond : an_wood_Check.cond = [9, 13, 20, 30, 33] := rfl
@[simp] theorem an_wood_Check_rows : an_wood_Check.rows = [] := rfl
@[simp] theorem an_wood_Check_loops : an_wood_Check.loops = [(4, [0, 10, 11, 12])] := rfl
@[simp] theorem an_wood_Check_ecalls : an_wood_Check.ecalls = [] := rfl
@[simp] theorem an_wood_Check_crows : an_wood_Check.crows = [] := rfl
@[simp] theorem an_wood_Check_tails : an_wood_Check.tails = [] := rfl
@[simp] noncomputable def cl_wood_Check : List (Nat × (List D → Option D)) := [(50, F_ident_IsName), (52, F_wood_Find), (53, F_wood_inRange)]
@[simp] noncomputable def ce_wood_Check : List (Nat × (List (Nat × O) → List D → Option (D × List (Nat × O)))) := []
noncomputable def c_wood_Check : CT := ⟨callOf (cl_wood_Check ), callOfE ce_wood_Check, gl⟩
@[simp] theorem c_wood_Check_p (f : FuncId) (ds : List D) : c_wood_Check.p f ds = callOf (cl_wood_Check ) f ds := Eq.trans rfl rfl
@[simp] theorem c_wood_Check_e (f : FuncId) (hs : List (Nat × O)) (ds : List D) : c_wood_Check.e f hs ds = callOfE ce_wood_Check f hs ds := Eq.trans rfl rfl
@[simp] theorem c_wood_Check_g (g : Nat) : c_wood_Check.g g = gl g := Eq.trans rfl rfl
noncomputable def L_wood_Check (i n : Nat) (s : St) : Option (E × St) := atN Tryd.prog c_wood_Check an_wood_Check 35 (bodyOf Tryd.f40) i n s
noncomputable def H_wood_Check (n i : Nat) (s : St) : Option (E × St) := atH Tryd.prog c_wood_Check an_wood_Check 35 (bodyOf Tryd.f40) n i s
@[simp] theorem H_wood_Check_eq (n i : Nat) (s : St) : H_wood_Check n i s = L_wood_Check i n (headOf (an_wood_Check.loops.lookup i) s) := rfl
noncomputable def R_wood_Check (i : Nat) (s : St) : Option (E × St) := stepL Tryd.prog c_wood_Check an_wood_Check 35 (bodyOf Tryd.f40) i s
theorem lok_wood_Check : okLoops (bodyOf Tryd.f40) = true := by kernel_rfl
theorem L_wood_Check_zero (i : Nat) (s : St) : L_wood_Check i 0 s = none := rfl
theorem L_wood_Check_succ (i n : Nat) (s : St) : L_wood_Check i (n + 1) s = andThen (R_wood_Check i s) (H_wood_Check n i) := atN_succ lok_wood_Check i n s
theorem R_wood_Check_eq (i : Nat) (s : St) : R_wood_Check i s = runS Tryd.prog c_wood_Check (H_wood_Check bigL) an_wood_Check 35 (loopAt (bodyOf Tryd.f40) i) s := rfl
noncomputable def F_wood_Check (ds : List D) : Option D := runF Tryd.prog c_wood_Check an_wood_Check 35 (bodyOf Tryd.f40) [.tmp 2] ds
theorem F_wood_Check_eq (ds : List D) : F_wood_Check ds = runG Tryd.prog c_wood_Check (H_wood_Check bigL) an_wood_Check 35 (bodyOf Tryd.f40) [.tmp 2] ds := runG_eq lok_wood_Check _ ds
theorem C_wood_Check (ds : List D) (r : D) (h : F_wood_Check ds = some r) : Contract Tryd.prog gl 40 ds r := contract_of mix Tryd.func40 rfl (by kernel_rfl) (by kernel_rfl) (by decide) (call := c_wood_Check) ⟨callOf_ok cl_wood_Check ⟨C_ident_IsName, C_wood_Find, C_wood_inRange, trivial⟩, callOfE_ok ce_wood_Check trivial⟩ h
-- sawmill/moist.Check: loops []; state: params 0..0, then [1, 2]
attribute [simp] Tryd.f17
noncomputable def an_moist_Check : Ann := ⟨[1, 2], [20, 28], [], [], [], some [2], [], [], [], []⟩
@[simp] theorem an_moist_Check_draws : an_moist_Check.draws = [] := rfl
@[simp] theorem an_moist_Check_exits : an_moist_Check.exits = [] := rfl
@[simp] theorem an_moist_Check_rets : an_moist_Check.rets = some [2] := rfl
@[simp] theorem an_moist_Check_keep : an_moist_Check.keep = [1, 2] := rfl
@[simp] theorem an_moist_Check_cond : an_moist_Check.cond = [20, 28] := rfl
@[simp] theorem an_moist_Check_rows : an_moist_Check.rows = [] := rfl
@[simp] theorem an_moist_Check_loops : an_moist_Check.loops = [] := rfl
@[simp] theorem an_moist_Check_ecalls : an_moist_Check.ecalls = [] := rfl
@[simp] theorem an_moist_Check_crows : an_moist_Check.crows = [] := rfl
@[simp] theorem an_moist_Check_tails : an_moist_Check.tails = [] := rfl
@[simp] noncomputable def cl_moist_Check : List (Nat × (List D → Option D)) := []
@[simp] noncomputable def ce_moist_Check : List (Nat × (List (Nat × O) → List D → Option (D × List (Nat × O)))) := []
noncomputable def c_moist_Check : CT := ⟨callOf (cl_moist_Check ), callOfE ce_moist_Check, gl⟩
@[simp] theorem c_moist_Check_p (f : FuncId) (ds : List D) : c_moist_Check.p f ds = callOf (cl_moist_Check ) f ds := Eq.trans rfl rfl
@[simp] theorem c_moist_Check_e (f : FuncId) (hs : List (Nat × O)) (ds : List D) : c_moist_Check.e f hs ds = callOfE ce_moist_Check f hs ds := Eq.trans rfl rfl
@[simp] theorem c_moist_Check_g (g : Nat) : c_moist_Check.g g = gl g := Eq.trans rfl rfl
noncomputable def L_moist_Check (i n : Nat) (s : St) : Option (E × St) := atN Tryd.prog c_moist_Check an_moist_Check 29 (bodyOf Tryd.f17) i n s
noncomputable def H_moist_Check (n i : Nat) (s : St) : Option (E × St) := atH Tryd.prog c_moist_Check an_moist_Check 29 (bodyOf Tryd.f17) n i s
@[simp] theorem H_moist_Check_eq (n i : Nat) (s : St) : H_moist_Check n i s = L_moist_Check i n (headOf (an_moist_Check.loops.lookup i) s) := rfl
noncomputable def R_moist_Check (i : Nat) (s : St) : Option (E × St) := stepL Tryd.prog c_moist_Check an_moist_Check 29 (bodyOf Tryd.f17) i s
theorem lok_moist_Check : okLoops (bodyOf Tryd.f17) = true := by kernel_rfl
noncomputable def F_moist_Check (ds : List D) : Option D := runF Tryd.prog c_moist_Check an_moist_Check 29 (bodyOf Tryd.f17) [.tmp 2] ds
theorem F_moist_Check_eq (ds : List D) : F_moist_Check ds = runG Tryd.prog c_moist_Check (H_moist_Check bigL) an_moist_Check 29 (bodyOf Tryd.f17) [.tmp 2] ds := runG_eq lok_moist_Check _ ds
theorem C_moist_Check (ds : List D) (r : D) (h : F_moist_Check ds = some r) : Contract Tryd.prog gl 17 ds r := contract_of mix Tryd.func17 rfl (by kernel_rfl) (by kernel_rfl) (by decide) (call := c_moist_Check) ⟨callOf_ok cl_moist_Check trivial, callOfE_ok ce_moist_Check trivial⟩ h
-- slices.Clone[[]sawmill/api.Stage,sawmill/api.Stage]: loops []; state: params 0..0, then [2]
attribute [simp] Tryd.f41
noncomputable def an_slices_Clone_api_Stage_api_Stage : Ann := ⟨[0, 2], [4], [5], [], [], some [2], [], [], [], []⟩
@[simp] theorem an_slices_Clone_api_Stage_api_Stage_draws : an_slices_Clone_api_Stage_api_Stage.draws = [] := rfl
@[simp] theorem an_slices_Clone_api_Stage_api_Stage_exits : an_slices_Clone_api_Stage_api_Stage.exits = [] := rfl
@[simp] theorem an_slices_Clone_api_Stage_api_Stage_rets : an_slices_Clone_api_Stage_api_Stage.rets = some [2] := rfl
@[simp] theorem an_slices_Clone_api_Stage_api_Stage_keep : an_slices_Clone_api_Stage_api_Stage.keep = [0, 2] := rfl
@[simp] theorem an_slices_Clone_api_Stage_api_Stage_cond : an_slices_Clone_api_Stage_api_Stage.cond = [4] := rfl
@[simp] theorem an_slices_Clone_api_Stage_api_Stage_rows : an_slices_Clone_api_Stage_api_Stage.rows = [5] := rfl
@[simp] theorem an_slices_Clone_api_Stage_api_Stage_loops : an_slices_Clone_api_Stage_api_Stage.loops = [] := rfl
@[simp] theorem an_slices_Clone_api_Stage_api_Stage_ecalls : an_slices_Clone_api_Stage_api_Stage.ecalls = [] := rfl
@[simp] theorem an_slices_Clone_api_Stage_api_Stage_crows : an_slices_Clone_api_Stage_api_Stage.crows = [] := rfl
@[simp] theorem an_slices_Clone_api_Stage_api_Stage_tails : an_slices_Clone_api_Stage_api_Stage.tails = [] := rfl
@[simp] noncomputable def cl_slices_Clone_api_Stage_api_Stage : List (Nat × (List D → Option D)) := []
@[simp] noncomputable def ce_slices_Clone_api_Stage_api_Stage : List (Nat × (List (Nat × O) → List D → Option (D × List (Nat × O)))) := []
noncomputable def c_slices_Clone_api_Stage_api_Stage : CT := ⟨callOf (cl_slices_Clone_api_Stage_api_Stage ), callOfE ce_slices_Clone_api_Stage_api_Stage, gl⟩
@[simp] theorem c_slices_Clone_api_Stage_api_Stage_p (f : FuncId) (ds : List D) : c_slices_Clone_api_Stage_api_Stage.p f ds = callOf (cl_slices_Clone_api_Stage_api_Stage ) f ds := Eq.trans rfl rfl
@[simp] theorem c_slices_Clone_api_Stage_api_Stage_e (f : FuncId) (hs : List (Nat × O)) (ds : List D) : c_slices_Clone_api_Stage_api_Stage.e f hs ds = callOfE ce_slices_Clone_api_Stage_api_Stage f hs ds := Eq.trans rfl rfl
@[simp] theorem c_slices_Clone_api_Stage_api_Stage_g (g : Nat) : c_slices_Clone_api_Stage_api_Stage.g g = gl g := Eq.trans rfl rfl
noncomputable def L_slices_Clone_api_Stage_api_Stage (i n : Nat) (s : St) : Option (E × St) := atN Tryd.prog c_slices_Clone_api_Stage_api_Stage an_slices_Clone_api_Stage_api_Stage 8 (bodyOf Tryd.f41) i n s
noncomputable def H_slices_Clone_api_Stage_api_Stage (n i : Nat) (s : St) : Option (E × St) := atH Tryd.prog c_slices_Clone_api_Stage_api_Stage an_slices_Clone_api_Stage_api_Stage 8 (bodyOf Tryd.f41) n i s
@[simp] theorem H_slices_Clone_api_Stage_api_Stage_eq (n i : Nat) (s : St) : H_slices_Clone_api_Stage_api_Stage n i s = L_slices_Clone_api_Stage_api_Stage i n (headOf (an_slices_Clone_api_Stage_api_Stage.loops.lookup i) s) := rfl
noncomputable def R_slices_Clone_api_Stage_api_Stage (i : Nat) (s : St) : Option (E × St) := stepL Tryd.prog c_slices_Clone_api_Stage_api_Stage an_slices_Clone_api_Stage_api_Stage 8 (bodyOf Tryd.f41) i s
theorem lok_slices_Clone_api_Stage_api_Stage : okLoops (bodyOf Tryd.f41) = true := by kernel_rfl
noncomputable def F_slices_Clone_api_Stage_api_Stage (ds : List D) : Option D := runF Tryd.prog c_slices_Clone_api_Stage_api_Stage an_slices_Clone_api_Stage_api_Stage 8 (bodyOf Tryd.f41) [.tmp 2] ds
theorem F_slices_Clone_api_Stage_api_Stage_eq (ds : List D) : F_slices_Clone_api_Stage_api_Stage ds = runG Tryd.prog c_slices_Clone_api_Stage_api_Stage (H_slices_Clone_api_Stage_api_Stage bigL) an_slices_Clone_api_Stage_api_Stage 8 (bodyOf Tryd.f41) [.tmp 2] ds := runG_eq lok_slices_Clone_api_Stage_api_Stage _ ds
theorem C_slices_Clone_api_Stage_api_Stage (ds : List D) (r : D) (h : F_slices_Clone_api_Stage_api_Stage ds = some r) : Contract Tryd.prog gl 41 ds r := contract_of mix Tryd.func41 rfl (by kernel_rfl) (by kernel_rfl) (by decide) (call := c_slices_Clone_api_Stage_api_Stage) ⟨callOf_ok cl_slices_Clone_api_Stage_api_Stage trivial, callOfE_ok ce_slices_Clone_api_Stage_api_Stage trivial⟩ h
noncomputable def NF_slices_Clone_api_Stage_api_Stage (ds : List D) : Option D := nilF F_slices_Clone_api_Stage_api_Stage (.own true []) ds
theorem NF_slices_Clone_api_Stage_api_Stage_sl (es : List (List D)) : NF_slices_Clone_api_Stage_api_Stage [.sl es] = if es.length = 0 then some (.own true []) else F_slices_Clone_api_Stage_api_Stage [.sl es] := Eq.trans rfl rfl
theorem NC_slices_Clone_api_Stage_api_Stage (ds : List D) (r : D) (h : NF_slices_Clone_api_Stage_api_Stage ds = some r) : Contract Tryd.prog gl 41 ds r := nilF_ok C_slices_Clone_api_Stage_api_Stage (fun A c => by rw [F_slices_Clone_api_Stage_api_Stage_eq]; cases A <;> simp) ds r h
-- slices.Clone[[]sawmill/kiln.Item,sawmill/kiln.Item]: loops []; state: params 0..0, then [2]
attribute [simp] Tryd.f38
noncomputable def an_slices_Clone_kiln_Item_kiln_Item : Ann := ⟨[0, 2], [4], [5], [], [], some [2], [], [], [], []⟩
@[simp] theorem an_slices_Clone_kiln_Item_kiln_Item_draws : an_slices_Clone_kiln_Item_kiln_Item.draws = [] := rfl
@[simp] theorem an_slices_Clone_kiln_Item_kiln_Item_exits : an_slices_Clone_kiln_Item_kiln_Item.exits = [] := rfl
@[simp] theorem an_slices_Clone_kiln_Item_kiln_Item_rets : an_slices_Clone_kiln_Item_kiln_Item.rets = some [2] := rfl
@[simp] theorem an_slices_Clone_kiln_Item_kiln_Item_keep : an_slices_Clone_kiln_Item_kiln_Item.keep = [0, 2] := rfl
@[simp] theorem an_slices_Clone_kiln_Item_kiln_Item_cond : an_slices_Clone_kiln_Item_kiln_Item.cond = [4] := rfl
@[simp] theorem an_slices_Clone_kiln_Item_kiln_Item_rows : an_slices_Clone_kiln_Item_kiln_Item.rows = [5] := rfl
@[simp] theorem an_slices_Clone_kiln_Item_kiln_Item_loops : an_slices_Clone_kiln_Item_kiln_Item.loops = [] := rfl
@[simp] theorem an_slices_Clone_kiln_Item_kiln_Item_ecalls : an_slices_Clone_kiln_Item_kiln_Item.ecalls = [] := rfl
@[simp] theorem an_slices_Clone_kiln_Item_kiln_Item_crows : an_slices_Clone_kiln_Item_kiln_Item.crows = [] := rfl
@[simp] theorem an_slices_Clone_kiln_Item_kiln_Item_tails : an_slices_Clone_kiln_Item_kiln_Item.tails = [] := rfl
@[simp] noncomputable def cl_slices_Clone_kiln_Item_kiln_Item : List (Nat × (List D → Option D)) := []
@[simp] noncomputable def ce_slices_Clone_kiln_Item_kiln_Item : List (Nat × (List (Nat × O) → List D → Option (D × List (Nat × O)))) := []
noncomputable def c_slices_Clone_kiln_Item_kiln_Item : CT := ⟨callOf (cl_slices_Clone_kiln_Item_kiln_Item ), callOfE ce_slices_Clone_kiln_Item_kiln_Item, gl⟩
@[simp] theorem c_slices_Clone_kiln_Item_kiln_Item_p (f : FuncId) (ds : List D) : c_slices_Clone_kiln_Item_kiln_Item.p f ds = callOf (cl_slices_Clone_kiln_Item_kiln_Item ) f ds := Eq.trans rfl rfl
@[simp] theorem c_slices_Clone_kiln_Item_kiln_Item_e (f : FuncId) (hs : List (Nat × O)) (ds : List D) : c_slices_Clone_kiln_Item_kiln_Item.e f hs ds = callOfE ce_slices_Clone_kiln_Item_kiln_Item f hs ds := Eq.trans rfl rfl
@[simp] theorem c_slices_Clone_kiln_Item_kiln_Item_g (g : Nat) : c_slices_Clone_kiln_Item_kiln_Item.g g = gl g := Eq.trans rfl rfl
noncomputable def L_slices_Clone_kiln_Item_kiln_Item (i n : Nat) (s : St) : Option (E × St) := atN Tryd.prog c_slices_Clone_kiln_Item_kiln_Item an_slices_Clone_kiln_Item_kiln_Item 8 (bodyOf Tryd.f38) i n s
noncomputable def H_slices_Clone_kiln_Item_kiln_Item (n i : Nat) (s : St) : Option (E × St) := atH Tryd.prog c_slices_Clone_kiln_Item_kiln_Item an_slices_Clone_kiln_Item_kiln_Item 8 (bodyOf Tryd.f38) n i s
@[simp] theorem H_slices_Clone_kiln_Item_kiln_Item_eq (n i : Nat) (s : St) : H_slices_Clone_kiln_Item_kiln_Item n i s = L_slices_Clone_kiln_Item_kiln_Item i n (headOf (an_slices_Clone_kiln_Item_kiln_Item.loops.lookup i) s) := rfl
noncomputable def R_slices_Clone_kiln_Item_kiln_Item (i : Nat) (s : St) : Option (E × St) := stepL Tryd.prog c_slices_Clone_kiln_Item_kiln_Item an_slices_Clone_kiln_Item_kiln_Item 8 (bodyOf Tryd.f38) i s
theorem lok_slices_Clone_kiln_Item_kiln_Item : okLoops (bodyOf Tryd.f38) = true := by kernel_rfl
noncomputable def F_slices_Clone_kiln_Item_kiln_Item (ds : List D) : Option D := runF Tryd.prog c_slices_Clone_kiln_Item_kiln_Item an_slices_Clone_kiln_Item_kiln_Item 8 (bodyOf Tryd.f38) [.tmp 2] ds
theorem F_slices_Clone_kiln_Item_kiln_Item_eq (ds : List D) : F_slices_Clone_kiln_Item_kiln_Item ds = runG Tryd.prog c_slices_Clone_kiln_Item_kiln_Item (H_slices_Clone_kiln_Item_kiln_Item bigL) an_slices_Clone_kiln_Item_kiln_Item 8 (bodyOf Tryd.f38) [.tmp 2] ds := runG_eq lok_slices_Clone_kiln_Item_kiln_Item _ ds
theorem C_slices_Clone_kiln_Item_kiln_Item (ds : List D) (r : D) (h : F_slices_Clone_kiln_Item_kiln_Item ds = some r) : Contract Tryd.prog gl 38 ds r := contract_of mix Tryd.func38 rfl (by kernel_rfl) (by kernel_rfl) (by decide) (call := c_slices_Clone_kiln_Item_kiln_Item) ⟨callOf_ok cl_slices_Clone_kiln_Item_kiln_Item trivial, callOfE_ok ce_slices_Clone_kiln_Item_kiln_Item trivial⟩ h
noncomputable def NF_slices_Clone_kiln_Item_kiln_Item (ds : List D) : Option D := nilF F_slices_Clone_kiln_Item_kiln_Item (.own true []) ds
theorem NF_slices_Clone_kiln_Item_kiln_Item_sl (es : List (List D)) : NF_slices_Clone_kiln_Item_kiln_Item [.sl es] = if es.length = 0 then some (.own true []) else F_slices_Clone_kiln_Item_kiln_Item [.sl es] := Eq.trans rfl rfl
theorem NC_slices_Clone_kiln_Item_kiln_Item (ds : List D) (r : D) (h : NF_slices_Clone_kiln_Item_kiln_Item ds = some r) : Contract Tryd.prog gl 38 ds r := nilF_ok C_slices_Clone_kiln_Item_kiln_Item (fun A c => by rw [F_slices_Clone_kiln_Item_kiln_Item_eq]; cases A <;> simp) ds r h
-- slices.Clone[[]sawmill/kiln.Item,sawmill/kiln.Item]: loops []; state: params 0..0, then [2]; WITH OBJECTS
attribute [simp] Tryd.f38
noncomputable def an_slices_Clone_kiln_Item_kiln_Item_obj : Ann := ⟨[0, 2], [4], [2, 5], [], [], some [2], [], [], [], []⟩
@[simp] theorem an_slices_Clone_kiln_Item_kiln_Item_obj_draws : an_slices_Clone_kiln_Item_kiln_Item_obj.draws = [] := rfl
@[simp] theorem an_slices_Clone_kiln_Item_kiln_Item_obj_exits : an_slices_Clone_kiln_Item_kiln_Item_obj.exits = [] := rfl
@[simp] theorem an_slices_Clone_kiln_Item_kiln_Item_obj_rets : an_slices_Clone_kiln_Item_kiln_Item_obj.rets = some [2] := rfl
@[simp] theorem an_slices_Clone_kiln_Item_kiln_Item_obj_keep : an_slices_Clone_kiln_Item_kiln_Item_obj.keep = [0, 2] := rfl
@[simp] theorem an_slices_Clone_kiln_Item_kiln_Item_obj_cond : an_slices_Clone_kiln_Item_kiln_Item_obj.cond = [4] := rfl
@[simp] theorem an_slices_Clone_kiln_Item_kiln_Item_obj_rows : an_slices_Clone_kiln_Item_kiln_Item_obj.rows = [2, 5] := rfl
@[simp] theorem an_slices_Clone_kiln_Item_kiln_Item_obj_loops : an_slices_Clone_kiln_Item_kiln_Item_obj.loops = [] := rfl
@[simp] theorem an_slices_Clone_kiln_Item_kiln_Item_obj_ecalls : an_slices_Clone_kiln_Item_kiln_Item_obj.ecalls = [] := rfl
@[simp] theorem an_slices_Clone_kiln_Item_kiln_Item_obj_crows : an_slices_Clone_kiln_Item_kiln_Item_obj.crows = [] := rfl
@[simp] theorem an_slices_Clone_kiln_Item_kiln_Item_obj_tails : an_slices_Clone_kiln_Item_kiln_Item_obj.tails = [] := rfl
@[simp] noncomputable def cl_slices_Clone_kiln_Item_kiln_Item_obj : List (Nat × (List D → Option D)) := []
@[simp] noncomputable def ce_slices_Clone_kiln_Item_kiln_Item_obj : List (Nat × (List (Nat × O) → List D → Option (D × List (Nat × O)))) := []
noncomputable def c_slices_Clone_kiln_Item_kiln_Item_obj : CT := ⟨callOf (cl_slices_Clone_kiln_Item_kiln_Item_obj ), callOfE ce_slices_Clone_kiln_Item_kiln_Item_obj, gl⟩
@[simp] theorem c_slices_Clone_kiln_Item_kiln_Item_obj_p (f : FuncId) (ds : List D) : c_slices_Clone_kiln_Item_kiln_Item_obj.p f ds = callOf (cl_slices_Clone_kiln_Item_kiln_Item_obj ) f ds := Eq.trans rfl rfl
@[simp] theorem c_slices_Clone_kiln_Item_kiln_Item_obj_e (f : FuncId) (hs : List (Nat × O)) (ds : List D) : c_slices_Clone_kiln_Item_kiln_Item_obj.e f hs ds = callOfE ce_slices_Clone_kiln_Item_kiln_Item_obj f hs ds := Eq.trans rfl rfl
@[simp] theorem c_slices_Clone_kiln_Item_kiln_Item_obj_g (g : Nat) : c_slices_Clone_kiln_Item_kiln_Item_obj.g g = gl g := Eq.trans rfl rfl
noncomputable def L_slices_Clone_kiln_Item_kiln_Item_obj (i n : Nat) (s : St) : Option (E × St) := atN Tryd.prog c_slices_Clone_kiln_Item_kiln_Item_obj an_slices_Clone_kiln_Item_kiln_Item_obj 8 (bodyOf Tryd.f38) i n s
noncomputable def H_slices_Clone_kiln_Item_kiln_Item_obj (n i : Nat) (s : St) : Option (E × St) := atH Tryd.prog c_slices_Clone_kiln_Item_kiln_Item_obj an_slices_Clone_kiln_Item_kiln_Item_obj 8 (bodyOf Tryd.f38) n i s
@[simp] theorem H_slices_Clone_kiln_Item_kiln_Item_obj_eq (n i : Nat) (s : St) : H_slices_Clone_kiln_Item_kiln_Item_obj n i s = L_slices_Clone_kiln_Item_kiln_Item_obj i n (headOf (an_slices_Clone_kiln_Item_kiln_Item_obj.loops.lookup i) s) := rfl
noncomputable def R_slices_Clone_kiln_Item_kiln_Item_obj (i : Nat) (s : St) : Option (E × St) := stepL Tryd.prog c_slices_Clone_kiln_Item_kiln_Item_obj an_slices_Clone_kiln_Item_kiln_Item_obj 8 (bodyOf Tryd.f38) i s
theorem lok_slices_Clone_kiln_Item_kiln_Item_obj : okLoops (bodyOf Tryd.f38) = true := by kernel_rfl
noncomputable def E_slices_Clone_kiln_Item_kiln_Item_obj (hs : List (Nat × O)) (ds : List D) : Option (D × List (Nat × O)) := runE Tryd.prog c_slices_Clone_kiln_Item_kiln_Item_obj an_slices_Clone_kiln_Item_kiln_Item_obj 8 (bodyOf Tryd.f38) [.tmp 2] hs ds
theorem E_slices_Clone_kiln_Item_kiln_Item_obj_eq (hs : List (Nat × O)) (ds : List D) : E_slices_Clone_kiln_Item_kiln_Item_obj hs ds = runGE Tryd.prog c_slices_Clone_kiln_Item_kiln_Item_obj (H_slices_Clone_kiln_Item_kiln_Item_obj bigL) an_slices_Clone_kiln_Item_kiln_Item_obj 8 (bodyOf Tryd.f38) [.tmp 2] hs ds := runGE_eq lok_slices_Clone_kiln_Item_kiln_Item_obj _ hs ds
theorem CE_slices_Clone_kiln_Item_kiln_Item_obj (hs : List (Nat × O)) (ds : List D) (r : D) (hs' : List (Nat × O)) (h : E_slices_Clone_kiln_Item_kiln_Item_obj hs ds = some (r, hs')) : ContractE Tryd.prog gl 38 hs ds r hs' := contractE_of mix Tryd.func38 rfl (by kernel_rfl) (by kernel_rfl) (by decide) (call := c_slices_Clone_kiln_Item_kiln_Item_obj) ⟨callOf_ok cl_slices_Clone_kiln_Item_kiln_Item_obj trivial, callOfE_ok ce_slices_Clone_kiln_Item_kiln_Item_obj trivial⟩ h
-- sawmill/air.Outside: loops []; state: params 0..-1, then [0]
attribute [simp] Tryd.f42
noncomputable def an_air_Outside : Ann := ⟨[0], [], [], [], [], some [0], [], [], [], []⟩
@[simp] theorem an_air_Outside_draws : an_air_Outside.draws = [] := rfl
@[simp] theorem an_air_Outside_exits : an_air_Outside.exits = [] := rfl
@[simp] theorem an_air_Outside_rets : an_air_Outside.rets = some [0] := rfl
@[simp] theorem an_air_Outside_keep : an_air_Outside.keep = [0] := rfl
@[simp] theorem an_air_Outside_cond : an_air_Outside.cond = [] := rfl
@[simp] theorem an_air_Outside_rows : an_air_Outside.rows = [] := rfl
@[simp] theorem an_air_Outside_loops : an_air_Outside.loops = [] := rfl
@[simp] theorem an_air_Outside_ecalls : an_air_Outside.ecalls = [] := rfl
@[simp] theorem an_air_Outside_crows : an_air_Outside.crows = [] := rfl
@[simp] theorem an_air_Outside_tails : an_air_Outside.tails = [] := rfl
@[simp] noncomputable def cl_air_Outside : List (Nat × (List D → Option D)) := []
@[simp] noncomputable def ce_air_Outside : List (Nat × (List (Nat × O) → List D → Option (D × List (Nat × O)))) := []
noncomputable def c_air_Outside : CT := ⟨callOf (cl_air_Outside ), callOfE ce_air_Outside, gl⟩
@[simp] theorem c_air_Outside_p (f : FuncId) (ds : List D) : c_air_Outside.p f ds = callOf (cl_air_Outside ) f ds := Eq.trans rfl rfl
@[simp] theorem c_air_Outside_e (f : FuncId) (hs : List (Nat × O)) (ds : List D) : c_air_Outside.e f hs ds = callOfE ce_air_Outside f hs ds := Eq.trans rfl rfl
@[simp] theorem c_air_Outside_g (g : Nat) : c_air_Outside.g g = gl g := Eq.trans rfl rfl
noncomputable def L_air_Outside (i n : Nat) (s : St) : Option (E × St) := atN Tryd.prog c_air_Outside an_air_Outside 2 (bodyOf Tryd.f42) i n s
noncomputable def H_air_Outside (n i : Nat) (s : St) : Option (E × St) := atH Tryd.prog c_air_Outside an_air_Outside 2 (bodyOf Tryd.f42) n i s
@[simp] theorem H_air_Outside_eq (n i : Nat) (s : St) : H_air_Outside n i s = L_air_Outside i n (headOf (an_air_Outside.loops.lookup i) s) := rfl
noncomputable def R_air_Outside (i : Nat) (s : St) : Option (E × St) := stepL Tryd.prog c_air_Outside an_air_Outside 2 (bodyOf Tryd.f42) i s
theorem lok_air_Outside : okLoops (bodyOf Tryd.f42) = true := by kernel_rfl
noncomputable def F_air_Outside (ds : List D) : Option D := runF Tryd.prog c_air_Outside an_air_Outside 2 (bodyOf Tryd.f42) [.cell 0 37] ds
theorem F_air_Outside_eq (ds : List D) : F_air_Outside ds = runG Tryd.prog c_air_Outside (H_air_Outside bigL) an_air_Outside 2 (bodyOf Tryd.f42) [.cell 0 37] ds := runG_eq lok_air_Outside _ ds
theorem C_air_Outside (ds : List D) (r : D) (h : F_air_Outside ds = some r) : Contract Tryd.prog gl 42 ds r := contract_of mix Tryd.func42 rfl (by kernel_rfl) (by kernel_rfl) (by decide) (call := c_air_Outside) ⟨callOf_ok cl_air_Outside trivial, callOfE_ok ce_air_Outside trivial⟩ h
-- sawmill/kiln.New: loops [12]; state: params 0..2, then [3, 4, 6, 7, 8, 9, 11, 12, 30, 31, 32]; WITH OBJECTS
attribute [simp] Tryd.f25
noncomputable def an_kiln_New : Ann := ⟨[2, 3, 4, 6, 7, 8, 9, 11, 12, 30, 31, 32], [16, 22, 26, 29, 33, 43, 48], [], [(12, [2, 3, 4, 30, 31, 32])], [(0, [2, 3, 4]), (1, [2, 3, 4, 30, 31, 32])], some [6, 7], [(21, 5)], [], [], []⟩
@[simp] theorem an_kiln_New_draws : an_kiln_New.draws = [(21, 5)] := rfl
@[simp] theorem an_kiln_New_exits : an_kiln_New.exits = [(0, [2, 3, 4]), (1, [2, 3, 4, 30, 31, 32])] := rfl
@[simp] theorem an_kiln_New_rets : an_kiln_New.rets = some [6, 7] := rfl
@[simp] theorem an_kiln_New_keep : an_kiln_New.keep = [2, 3, 4, 6, 7, 8, 9, 11, 12, 30, 31, 32] := rfl
@[simp] theorem an_kiln_New_cond : an_kiln_New.cond = [16, 22, 26, 29, 33, 43, 48] := rfl
@[simp] theorem an_kiln_New_rows : an_kiln_New.rows = [] := rfl
@[simp] theorem an_kiln_New_loops : an_kiln_New.loops = [(12, [2, 3, 4, 30, 31, 32])] := rfl
@[simp] theorem an_kiln_New_ecalls : an_kiln_New.ecalls = [] := rfl
@[simp] theorem an_kiln_New_crows : an_kiln_New.crows = [] := rfl
@[simp] theorem an_kiln_New_tails : an_kiln_New.tails = [] := rfl
@[simp] noncomputable def cl_kiln_New : List (Nat × (List D → Option D)) := [(17, F_moist_Check), (38, NF_slices_Clone_kiln_Item_kiln_Item), (39, F_schedule_Check), (40, F_wood_Check), (41, NF_slices_Clone_api_Stage_api_Stage), (42, F_air_Outside)]
@[simp] noncomputable def ce_kiln_New : List (Nat × (List (Nat × O) → List D → Option (D × List (Nat × O)))) := []
noncomputable def c_kiln_New : CT := ⟨callOf (cl_kiln_New ), callOfE ce_kiln_New, gl⟩
@[simp] theorem c_kiln_New_p (f : FuncId) (ds : List D) : c_kiln_New.p f ds = callOf (cl_kiln_New ) f ds := Eq.trans rfl rfl
@[simp] theorem c_kiln_New_e (f : FuncId) (hs : List (Nat × O)) (ds : List D) : c_kiln_New.e f hs ds = callOfE ce_kiln_New f hs ds := Eq.trans rfl rfl
@[simp] theorem c_kiln_New_g (g : Nat) : c_kiln_New.g g = gl g := Eq.trans rfl rfl
noncomputable def L_kiln_New (i n : Nat) (s : St) : Option (E × St) := atN Tryd.prog c_kiln_New an_kiln_New 62 (bodyOf Tryd.f25) i n s
noncomputable def H_kiln_New (n i : Nat) (s : St) : Option (E × St) := atH Tryd.prog c_kiln_New an_kiln_New 62 (bodyOf Tryd.f25) n i s
@[simp] theorem H_kiln_New_eq (n i : Nat) (s : St) : H_kiln_New n i s = L_kiln_New i n (headOf (an_kiln_New.loops.lookup i) s) := rfl
noncomputable def R_kiln_New (i : Nat) (s : St) : Option (E × St) := stepL Tryd.prog c_kiln_New an_kiln_New 62 (bodyOf Tryd.f25) i s
theorem lok_kiln_New : okLoops (bodyOf Tryd.f25) = true := by kernel_rfl
theorem L_kiln_New_zero (i : Nat) (s : St) : L_kiln_New i 0 s = none := rfl
theorem L_kiln_New_succ (i n : Nat) (s : St) : L_kiln_New i (n + 1) s = andThen (R_kiln_New i s) (H_kiln_New n i) := atN_succ lok_kiln_New i n s
theorem R_kiln_New_eq (i : Nat) (s : St) : R_kiln_New i s = runS Tryd.prog c_kiln_New (H_kiln_New bigL) an_kiln_New 62 (loopAt (bodyOf Tryd.f25) i) s := rfl
noncomputable def E_kiln_New (hs : List (Nat × O)) (ds : List D) : Option (D × List (Nat × O)) := runE Tryd.prog c_kiln_New an_kiln_New 62 (bodyOf Tryd.f25) [.tmp 6, .tmp 7] hs ds
theorem E_kiln_New_eq (hs : List (Nat × O)) (ds : List D) : E_kiln_New hs ds = runGE Tryd.prog c_kiln_New (H_kiln_New bigL) an_kiln_New 62 (bodyOf Tryd.f25) [.tmp 6, .tmp 7] hs ds := runGE_eq lok_kiln_New _ hs ds
theorem CE_kiln_New (hs : List (Nat × O)) (ds : List D) (r : D) (hs' : List (Nat × O)) (h : E_kiln_New hs ds = some (r, hs')) : ContractE Tryd.prog gl 25 hs ds r hs' := contractE_of mix Tryd.func25 rfl (by kernel_rfl) (by kernel_rfl) (by decide) (call := c_kiln_New) ⟨callOf_ok cl_kiln_New ⟨C_moist_Check, NC_slices_Clone_kiln_Item_kiln_Item, C_schedule_Check, C_wood_Check, NC_slices_Clone_api_Stage_api_Stage, C_air_Outside, trivial⟩, callOfE_ok ce_kiln_New trivial⟩ h
-- sawmill/sawmilllaw38.begun: loops [3]; state: params 0..0, then [1, 2, 3, 4, 5]; WITH OBJECTS
attribute [simp] Tryd.f10
noncomputable def an_law38_begun : Ann := ⟨[1, 2, 3, 4, 5], [10], [4], [(3, [1, 4, 5])], [(0, [1, 4]), (1, [1, 4, 5])], some [2, 3], [(5, 15)], [(25, false)], [], []⟩
@[simp] theorem an_law38_begun_draws : an_law38_begun.draws = [(5, 15)] := rfl
@[simp] theorem an_law38_begun_exits : an_law38_begun.exits = [(0, [1, 4]), (1, [1, 4, 5])] := rfl
@[simp] theorem an_law38_begun_rets : an_law38_begun.rets = some [2, 3] := rfl
@[simp] theorem an_law38_begun_keep : an_law38_begun.keep = [1, 2, 3, 4, 5] := rfl
@[simp] theorem an_law38_begun_cond : an_law38_begun.cond = [10] := rfl
@[simp] theorem an_law38_begun_rows : an_law38_begun.rows = [4] := rfl
@[simp] theorem an_law38_begun_loops : an_law38_begun.loops = [(3, [1, 4, 5])] := rfl
@[simp] theorem an_law38_begun_ecalls : an_law38_begun.ecalls = [(25, false)] := rfl
@[simp] theorem an_law38_begun_crows : an_law38_begun.crows = [] := rfl
@[simp] theorem an_law38_begun_tails : an_law38_begun.tails = [] := rfl
@[simp] noncomputable def cl_law38_begun : List (Nat × (List D → Option D)) := []
@[simp] noncomputable def ce_law38_begun : List (Nat × (List (Nat × O) → List D → Option (D × List (Nat × O)))) := [(25, E_kiln_New)]
noncomputable def c_law38_begun : CT := ⟨callOf (cl_law38_begun ), callOfE ce_law38_begun, gl⟩
@[simp] theorem c_law38_begun_p (f : FuncId) (ds : List D) : c_law38_begun.p f ds = callOf (cl_law38_begun ) f ds := Eq.trans rfl rfl
@[simp] theorem c_law38_begun_e (f : FuncId) (hs : List (Nat × O)) (ds : List D) : c_law38_begun.e f hs ds = callOfE ce_law38_begun f hs ds := Eq.trans rfl rfl
@[simp] theorem c_law38_begun_g (g : Nat) : c_law38_begun.g g = gl g := Eq.trans rfl rfl
noncomputable def L_law38_begun (i n : Nat) (s : St) : Option (E × St) := atN Tryd.prog c_law38_begun an_law38_begun 37 (bodyOf Tryd.f10) i n s
noncomputable def H_law38_begun (n i : Nat) (s : St) : Option (E × St) := atH Tryd.prog c_law38_begun an_law38_begun 37 (bodyOf Tryd.f10) n i s
@[simp] theorem H_law38_begun_eq (n i : Nat) (s : St) : H_law38_begun n i s = L_law38_begun i n (headOf (an_law38_begun.loops.lookup i) s) := rfl
noncomputable def R_law38_begun (i : Nat) (s : St) : Option (E × St) := stepL Tryd.prog c_law38_begun an_law38_begun 37 (bodyOf Tryd.f10) i s
theorem lok_law38_begun : okLoops (bodyOf Tryd.f10) = true := by kernel_rfl
theorem L_law38_begun_zero (i : Nat) (s : St) : L_law38_begun i 0 s = none := rfl
theorem L_law38_begun_succ (i n : Nat) (s : St) : L_law38_begun i (n + 1) s = andThen (R_law38_begun i s) (H_law38_begun n i) := atN_succ lok_law38_begun i n s
theorem R_law38_begun_eq (i : Nat) (s : St) : R_law38_begun i s = runS Tryd.prog c_law38_begun (H_law38_begun bigL) an_law38_begun 37 (loopAt (bodyOf Tryd.f10) i) s := rfl
noncomputable def E_law38_begun (hs : List (Nat × O)) (ds : List D) : Option (D × List (Nat × O)) := runE Tryd.prog c_law38_begun an_law38_begun 37 (bodyOf Tryd.f10) [.tmp 2, .tmp 3] hs ds
theorem E_law38_begun_eq (hs : List (Nat × O)) (ds : List D) : E_law38_begun hs ds = runGE Tryd.prog c_law38_begun (H_law38_begun bigL) an_law38_begun 37 (bodyOf Tryd.f10) [.tmp 2, .tmp 3] hs ds := runGE_eq lok_law38_begun _ hs ds
theorem CE_law38_begun (hs : List (Nat × O)) (ds : List D) (r : D) (hs' : List (Nat × O)) (h : E_law38_begun hs ds = some (r, hs')) : ContractE Tryd.prog gl 10 hs ds r hs' := contractE_of mix Tryd.func10 rfl (by kernel_rfl) (by kernel_rfl) (by decide) (call := c_law38_begun) ⟨callOf_ok cl_law38_begun trivial, callOfE_ok ce_law38_begun ⟨CE_kiln_New, trivial⟩⟩ h
-- (*sawmill/kiln.Kiln).Climate: loops []; state: params 0..0, then [2]
attribute [simp] Tryd.f15
noncomputable def an_kiln_Kiln_Climate : Ann := ⟨[0, 2], [4], [], [], [], some [2], [], [], [], []⟩
@[simp] theorem an_kiln_Kiln_Climate_draws : an_kiln_Kiln_Climate.draws = [] := rfl
@[simp] theorem an_kiln_Kiln_Climate_exits : an_kiln_Kiln_Climate.exits = [] := rfl
@[simp] theorem an_kiln_Kiln_Climate_rets : an_kiln_Kiln_Climate.rets = some [2] := rfl
@[simp] theorem an_kiln_Kiln_Climate_keep : an_kiln_Kiln_Climate.keep = [0, 2] := rfl
@[simp] theorem an_kiln_Kiln_Climate_cond : an_kiln_Kiln_Climate.cond = [4] := rfl
@[simp] theorem an_kiln_Kiln_Climate_rows : an_kiln_Kiln_Climate.rows = [] := rfl
@[simp] theorem an_kiln_Kiln_Climate_loops : an_kiln_Kiln_Climate.loops = [] := rfl
@[simp] theorem an_kiln_Kiln_Climate_ecalls : an_kiln_Kiln_Climate.ecalls = [] := rfl
@[simp] theorem an_kiln_Kiln_Climate_crows : an_kiln_Kiln_Climate.crows = [] := rfl
@[simp] theorem an_kiln_Kiln_Climate_tails : an_kiln_Kiln_Climate.tails = [] := rfl
@[simp] noncomputable def cl_kiln_Kiln_Climate : List (Nat × (List D → Option D)) := []
@[simp] noncomputable def ce_kiln_Kiln_Climate : List (Nat × (List (Nat × O) → List D → Option (D × List (Nat × O)))) := []
noncomputable def c_kiln_Kiln_Climate : CT := ⟨callOf (cl_kiln_Kiln_Climate ), callOfE ce_kiln_Kiln_Climate, gl⟩
@[simp] theorem c_kiln_Kiln_Climate_p (f : FuncId) (ds : List D) : c_kiln_Kiln_Climate.p f ds = callOf (cl_kiln_Kiln_Climate ) f ds := Eq.trans rfl rfl
@[simp] theorem c_kiln_Kiln_Climate_e (f : FuncId) (hs : List (Nat × O)) (ds : List D) : c_kiln_Kiln_Climate.e f hs ds = callOfE ce_kiln_Kiln_Climate f hs ds := Eq.trans rfl rfl
@[simp] theorem c_kiln_Kiln_Climate_g (g : Nat) : c_kiln_Kiln_Climate.g g = gl g := Eq.trans rfl rfl
noncomputable def L_kiln_Kiln_Climate (i n : Nat) (s : St) : Option (E × St) := atN Tryd.prog c_kiln_Kiln_Climate an_kiln_Kiln_Climate 10 (bodyOf Tryd.f15) i n s
noncomputable def H_kiln_Kiln_Climate (n i : Nat) (s : St) : Option (E × St) := atH Tryd.prog c_kiln_Kiln_Climate an_kiln_Kiln_Climate 10 (bodyOf Tryd.f15) n i s
@[simp] theorem H_kiln_Kiln_Climate_eq (n i : Nat) (s : St) : H_kiln_Kiln_Climate n i s = L_kiln_Kiln_Climate i n (headOf (an_kiln_Kiln_Climate.loops.lookup i) s) := rfl
noncomputable def R_kiln_Kiln_Climate (i : Nat) (s : St) : Option (E × St) := stepL Tryd.prog c_kiln_Kiln_Climate an_kiln_Kiln_Climate 10 (bodyOf Tryd.f15) i s
theorem lok_kiln_Kiln_Climate : okLoops (bodyOf Tryd.f15) = true := by kernel_rfl
noncomputable def F_kiln_Kiln_Climate (ds : List D) : Option D := runF Tryd.prog c_kiln_Kiln_Climate an_kiln_Kiln_Climate 10 (bodyOf Tryd.f15) [.cell 2 37] ds
theorem F_kiln_Kiln_Climate_eq (ds : List D) : F_kiln_Kiln_Climate ds = runG Tryd.prog c_kiln_Kiln_Climate (H_kiln_Kiln_Climate bigL) an_kiln_Kiln_Climate 10 (bodyOf Tryd.f15) [.cell 2 37] ds := runG_eq lok_kiln_Kiln_Climate _ ds
theorem C_kiln_Kiln_Climate (ds : List D) (r : D) (h : F_kiln_Kiln_Climate ds = some r) : Contract Tryd.prog gl 15 ds r := contract_of mix Tryd.func15 rfl (by kernel_rfl) (by kernel_rfl) (by decide) (call := c_kiln_Kiln_Climate) ⟨callOf_ok cl_kiln_Kiln_Climate trivial, callOfE_ok ce_kiln_Kiln_Climate trivial⟩ h
-- (*sawmill/kiln.Kiln).Done: loops []; state: params 0..0, then [2]
attribute [simp] Tryd.f21
noncomputable def an_kiln_Kiln_Done : Ann := ⟨[2], [], [], [], [], some [2], [(1, 13)], [], [], []⟩
@[simp] theorem an_kiln_Kiln_Done_draws : an_kiln_Kiln_Done.draws = [(1, 13)] := rfl
@[simp] theorem an_kiln_Kiln_Done_exits : an_kiln_Kiln_Done.exits = [] := rfl
@[simp] theorem an_kiln_Kiln_Done_rets : an_kiln_Kiln_Done.rets = some [2] := rfl
@[simp] theorem an_kiln_Kiln_Done_keep : an_kiln_Kiln_Done.keep = [2] := rfl
@[simp] theorem an_kiln_Kiln_Done_cond : an_kiln_Kiln_Done.cond = [] := rfl
@[simp] theorem an_kiln_Kiln_Done_rows : an_kiln_Kiln_Done.rows = [] := rfl
@[simp] theorem an_kiln_Kiln_Done_loops : an_kiln_Kiln_Done.loops = [] := rfl
@[simp] theorem an_kiln_Kiln_Done_ecalls : an_kiln_Kiln_Done.ecalls = [] := rfl
@[simp] theorem an_kiln_Kiln_Done_crows : an_kiln_Kiln_Done.crows = [] := rfl
@[simp] theorem an_kiln_Kiln_Done_tails : an_kiln_Kiln_Done.tails = [] := rfl
@[simp] noncomputable def cl_kiln_Kiln_Done : List (Nat × (List D → Option D)) := []
@[simp] noncomputable def ce_kiln_Kiln_Done : List (Nat × (List (Nat × O) → List D → Option (D × List (Nat × O)))) := []
noncomputable def c_kiln_Kiln_Done : CT := ⟨callOf (cl_kiln_Kiln_Done ), callOfE ce_kiln_Kiln_Done, gl⟩
@[simp] theorem c_kiln_Kiln_Done_p (f : FuncId) (ds : List D) : c_kiln_Kiln_Done.p f ds = callOf (cl_kiln_Kiln_Done ) f ds := Eq.trans rfl rfl
@[simp] theorem c_kiln_Kiln_Done_e (f : FuncId) (hs : List (Nat × O)) (ds : List D) : c_kiln_Kiln_Done.e f hs ds = callOfE ce_kiln_Kiln_Done f hs ds := Eq.trans rfl rfl
@[simp] theorem c_kiln_Kiln_Done_g (g : Nat) : c_kiln_Kiln_Done.g g = gl g := Eq.trans rfl rfl
noncomputable def L_kiln_Kiln_Done (i n : Nat) (s : St) : Option (E × St) := atN Tryd.prog c_kiln_Kiln_Done an_kiln_Kiln_Done 18 (bodyOf Tryd.f21) i n s
noncomputable def H_kiln_Kiln_Done (n i : Nat) (s : St) : Option (E × St) := atH Tryd.prog c_kiln_Kiln_Done an_kiln_Kiln_Done 18 (bodyOf Tryd.f21) n i s
@[simp] theorem H_kiln_Kiln_Done_eq (n i : Nat) (s : St) : H_kiln_Kiln_Done n i s = L_kiln_Kiln_Done i n (headOf (an_kiln_Kiln_Done.loops.lookup i) s) := rfl
noncomputable def R_kiln_Kiln_Done (i : Nat) (s : St) : Option (E × St) := stepL Tryd.prog c_kiln_Kiln_Done an_kiln_Kiln_Done 18 (bodyOf Tryd.f21) i s
theorem lok_kiln_Kiln_Done : okLoops (bodyOf Tryd.f21) = true := by kernel_rfl
noncomputable def F_kiln_Kiln_Done (ds : List D) : Option D := runF Tryd.prog c_kiln_Kiln_Done an_kiln_Kiln_Done 18 (bodyOf Tryd.f21) [.tmp 2] ds
theorem F_kiln_Kiln_Done_eq (ds : List D) : F_kiln_Kiln_Done ds = runG Tryd.prog c_kiln_Kiln_Done (H_kiln_Kiln_Done bigL) an_kiln_Kiln_Done 18 (bodyOf Tryd.f21) [.tmp 2] ds := runG_eq lok_kiln_Kiln_Done _ ds
theorem C_kiln_Kiln_Done (ds : List D) (r : D) (h : F_kiln_Kiln_Done ds = some r) : Contract Tryd.prog gl 21 ds r := contract_of mix Tryd.func21 rfl (by kernel_rfl) (by kernel_rfl) (by decide) (call := c_kiln_Kiln_Done) ⟨callOf_ok cl_kiln_Kiln_Done trivial, callOfE_ok ce_kiln_Kiln_Done trivial⟩ h
-- sawmill/schedule.Target: loops []; state: params 0..2, then [3, 5, 6, 7]
attribute [simp] Tryd.f32
noncomputable def an_schedule_Target : Ann := ⟨[1, 3, 5, 6, 7], [16], [], [], [], some [6], [], [], [], []⟩
@[simp] theorem an_schedule_Target_draws : an_schedule_Target.draws = [] := rfl
@[simp] theorem an_schedule_Target_exits : an_schedule_Target.exits = [] := rfl
@[simp] theorem an_schedule_Target_rets : an_schedule_Target.rets = some [6] := rfl
@[simp] theorem an_schedule_Target_keep : an_schedule_Target.keep = [1, 3, 5, 6, 7] := rfl
@[simp] theorem an_schedule_Target_cond : an_schedule_Target.cond = [16] := rfl
@[simp] theorem an_schedule_Target_rows : an_schedule_Target.rows = [] := rfl
@[simp] theorem an_schedule_Target_loops : an_schedule_Target.loops = [] := rfl
@[simp] theorem an_schedule_Target_ecalls : an_schedule_Target.ecalls = [] := rfl
@[simp] theorem an_schedule_Target_crows : an_schedule_Target.crows = [] := rfl
@[simp] theorem an_schedule_Target_tails : an_schedule_Target.tails = [] := rfl
@[simp] noncomputable def cl_schedule_Target : List (Nat × (List D → Option D)) := []
@[simp] noncomputable def ce_schedule_Target : List (Nat × (List (Nat × O) → List D → Option (D × List (Nat × O)))) := []
noncomputable def c_schedule_Target : CT := ⟨callOf (cl_schedule_Target ), callOfE ce_schedule_Target, gl⟩
@[simp] theorem c_schedule_Target_p (f : FuncId) (ds : List D) : c_schedule_Target.p f ds = callOf (cl_schedule_Target ) f ds := Eq.trans rfl rfl
@[simp] theorem c_schedule_Target_e (f : FuncId) (hs : List (Nat × O)) (ds : List D) : c_schedule_Target.e f hs ds = callOfE ce_schedule_Target f hs ds := Eq.trans rfl rfl
@[simp] theorem c_schedule_Target_g (g : Nat) : c_schedule_Target.g g = gl g := Eq.trans rfl rfl
noncomputable def L_schedule_Target (i n : Nat) (s : St) : Option (E × St) := atN Tryd.prog c_schedule_Target an_schedule_Target 34 (bodyOf Tryd.f32) i n s
noncomputable def H_schedule_Target (n i : Nat) (s : St) : Option (E × St) := atH Tryd.prog c_schedule_Target an_schedule_Target 34 (bodyOf Tryd.f32) n i s
@[simp] theorem H_schedule_Target_eq (n i : Nat) (s : St) : H_schedule_Target n i s = L_schedule_Target i n (headOf (an_schedule_Target.loops.lookup i) s) := rfl
noncomputable def R_schedule_Target (i : Nat) (s : St) : Option (E × St) := stepL Tryd.prog c_schedule_Target an_schedule_Target 34 (bodyOf Tryd.f32) i s
theorem lok_schedule_Target : okLoops (bodyOf Tryd.f32) = true := by kernel_rfl
noncomputable def F_schedule_Target (ds : List D) : Option D := runF Tryd.prog c_schedule_Target an_schedule_Target 34 (bodyOf Tryd.f32) [.cell 6 37] ds
theorem F_schedule_Target_eq (ds : List D) : F_schedule_Target ds = runG Tryd.prog c_schedule_Target (H_schedule_Target bigL) an_schedule_Target 34 (bodyOf Tryd.f32) [.cell 6 37] ds := runG_eq lok_schedule_Target _ ds
theorem C_schedule_Target (ds : List D) (r : D) (h : F_schedule_Target ds = some r) : Contract Tryd.prog gl 32 ds r := contract_of mix Tryd.func32 rfl (by kernel_rfl) (by kernel_rfl) (by decide) (call := c_schedule_Target) ⟨callOf_ok cl_schedule_Target trivial, callOfE_ok ce_schedule_Target trivial⟩ h
-- sawmill/units.Clamp: loops []; state: params 0..2, then [6]
attribute [simp] Tryd.f48
noncomputable def an_units_Clamp : Ann := ⟨[0, 1, 2, 6], [7, 17], [], [], [(0, [0])], some [6], [], [], [], []⟩
@[simp] theorem an_units_Clamp_draws : an_units_Clamp.draws = [] := rfl
@[simp] theorem an_units_Clamp_exits : an_units_Clamp.exits = [(0, [0])] := rfl
@[simp] theorem an_units_Clamp_rets : an_units_Clamp.rets = some [6] := rfl
@[simp] theorem an_units_Clamp_keep : an_units_Clamp.keep = [0, 1, 2, 6] := rfl
@[simp] theorem an_units_Clamp_cond : an_units_Clamp.cond = [7, 17] := rfl
@[simp] theorem an_units_Clamp_rows : an_units_Clamp.rows = [] := rfl
@[simp] theorem an_units_Clamp_loops : an_units_Clamp.loops = [] := rfl
@[simp] theorem an_units_Clamp_ecalls : an_units_Clamp.ecalls = [] := rfl
@[simp] theorem an_units_Clamp_crows : an_units_Clamp.crows = [] := rfl
@[simp] theorem an_units_Clamp_tails : an_units_Clamp.tails = [] := rfl
@[simp] noncomputable def cl_units_Clamp : List (Nat × (List D → Option D)) := []
@[simp] noncomputable def ce_units_Clamp : List (Nat × (List (Nat × O) → List D → Option (D × List (Nat × O)))) := []
noncomputable def c_units_Clamp : CT := ⟨callOf (cl_units_Clamp ), callOfE ce_units_Clamp, gl⟩
@[simp] theorem c_units_Clamp_p (f : FuncId) (ds : List D) : c_units_Clamp.p f ds = callOf (cl_units_Clamp ) f ds := Eq.trans rfl rfl
@[simp] theorem c_units_Clamp_e (f : FuncId) (hs : List (Nat × O)) (ds : List D) : c_units_Clamp.e f hs ds = callOfE ce_units_Clamp f hs ds := Eq.trans rfl rfl
@[simp] theorem c_units_Clamp_g (g : Nat) : c_units_Clamp.g g = gl g := Eq.trans rfl rfl
noncomputable def L_units_Clamp (i n : Nat) (s : St) : Option (E × St) := atN Tryd.prog c_units_Clamp an_units_Clamp 23 (bodyOf Tryd.f48) i n s
noncomputable def H_units_Clamp (n i : Nat) (s : St) : Option (E × St) := atH Tryd.prog c_units_Clamp an_units_Clamp 23 (bodyOf Tryd.f48) n i s
@[simp] theorem H_units_Clamp_eq (n i : Nat) (s : St) : H_units_Clamp n i s = L_units_Clamp i n (headOf (an_units_Clamp.loops.lookup i) s) := rfl
noncomputable def R_units_Clamp (i : Nat) (s : St) : Option (E × St) := stepL Tryd.prog c_units_Clamp an_units_Clamp 23 (bodyOf Tryd.f48) i s
theorem lok_units_Clamp : okLoops (bodyOf Tryd.f48) = true := by kernel_rfl
noncomputable def F_units_Clamp (ds : List D) : Option D := runF Tryd.prog c_units_Clamp an_units_Clamp 23 (bodyOf Tryd.f48) [.tmp 6] ds
theorem F_units_Clamp_eq (ds : List D) : F_units_Clamp ds = runG Tryd.prog c_units_Clamp (H_units_Clamp bigL) an_units_Clamp 23 (bodyOf Tryd.f48) [.tmp 6] ds := runG_eq lok_units_Clamp _ ds
theorem C_units_Clamp (ds : List D) (r : D) (h : F_units_Clamp ds = some r) : Contract Tryd.prog gl 48 ds r := contract_of mix Tryd.func48 rfl (by kernel_rfl) (by kernel_rfl) (by decide) (call := c_units_Clamp) ⟨callOf_ok cl_units_Clamp trivial, callOfE_ok ce_units_Clamp trivial⟩ h
-- sawmill/air.clamp: loops []; state: params 0..0, then [1, 2]
attribute [simp] Tryd.f46
noncomputable def an_air_clamp : Ann := ⟨[1, 2], [], [], [], [], some [2], [(1, 5)], [], [], []⟩
@[simp] theorem an_air_clamp_draws : an_air_clamp.draws = [(1, 5)] := rfl
@[simp] theorem an_air_clamp_exits : an_air_clamp.exits = [] := rfl
@[simp] theorem an_air_clamp_rets : an_air_clamp.rets = some [2] := rfl
@[simp] theorem an_air_clamp_keep : an_air_clamp.keep = [1, 2] := rfl
@[simp] theorem an_air_clamp_cond : an_air_clamp.cond = [] := rfl
@[simp] theorem an_air_clamp_rows : an_air_clamp.rows = [] := rfl
@[simp] theorem an_air_clamp_loops : an_air_clamp.loops = [] := rfl
@[simp] theorem an_air_clamp_ecalls : an_air_clamp.ecalls = [] := rfl
@[simp] theorem an_air_clamp_crows : an_air_clamp.crows = [] := rfl
@[simp] theorem an_air_clamp_tails : an_air_clamp.tails = [] := rfl
@[simp] noncomputable def cl_air_clamp : List (Nat × (List D → Option D)) := [(48, F_units_Clamp)]
@[simp] noncomputable def ce_air_clamp : List (Nat × (List (Nat × O) → List D → Option (D × List (Nat × O)))) := []
noncomputable def c_air_clamp : CT := ⟨callOf (cl_air_clamp ), callOfE ce_air_clamp, gl⟩
@[simp] theorem c_air_clamp_p (f : FuncId) (ds : List D) : c_air_clamp.p f ds = callOf (cl_air_clamp ) f ds := Eq.trans rfl rfl
@[simp] theorem c_air_clamp_e (f : FuncId) (hs : List (Nat × O)) (ds : List D) : c_air_clamp.e f hs ds = callOfE ce_air_clamp f hs ds := Eq.trans rfl rfl
@[simp] theorem c_air_clamp_g (g : Nat) : c_air_clamp.g g = gl g := Eq.trans rfl rfl
noncomputable def L_air_clamp (i n : Nat) (s : St) : Option (E × St) := atN Tryd.prog c_air_clamp an_air_clamp 10 (bodyOf Tryd.f46) i n s
noncomputable def H_air_clamp (n i : Nat) (s : St) : Option (E × St) := atH Tryd.prog c_air_clamp an_air_clamp 10 (bodyOf Tryd.f46) n i s
@[simp] theorem H_air_clamp_eq (n i : Nat) (s : St) : H_air_clamp n i s = L_air_clamp i n (headOf (an_air_clamp.loops.lookup i) s) := rfl
noncomputable def R_air_clamp (i : Nat) (s : St) : Option (E × St) := stepL Tryd.prog c_air_clamp an_air_clamp 10 (bodyOf Tryd.f46) i s
theorem lok_air_clamp : okLoops (bodyOf Tryd.f46) = true := by kernel_rfl
noncomputable def F_air_clamp (ds : List D) : Option D := runF Tryd.prog c_air_clamp an_air_clamp 10 (bodyOf Tryd.f46) [.cell 2 37] ds
theorem F_air_clamp_eq (ds : List D) : F_air_clamp ds = runG Tryd.prog c_air_clamp (H_air_clamp bigL) an_air_clamp 10 (bodyOf Tryd.f46) [.cell 2 37] ds := runG_eq lok_air_clamp _ ds
theorem C_air_clamp (ds : List D) (r : D) (h : F_air_clamp ds = some r) : Contract Tryd.prog gl 46 ds r := contract_of mix Tryd.func46 rfl (by kernel_rfl) (by kernel_rfl) (by decide) (call := c_air_clamp) ⟨callOf_ok cl_air_clamp ⟨C_units_Clamp, trivial⟩, callOfE_ok ce_air_clamp trivial⟩ h
-- slices.Index[[]int,int]: loops [2]; state: params 0..1, then [4, 5, 7, 8]
attribute [simp] Tryd.f63
noncomputable def an_slices_Index_int_int : Ann := ⟨[0, 4, 5, 7, 8], [9, 16], [], [(2, [0, 1, 7, 8])], [(0, []), (1, [0, 1, 7, 8])], some [4], [], [], [], []⟩
@[simp] theorem an_slices_Index_int_int_draws : an_slices_Index_int_int.draws = [] := rfl
@[simp] theorem an_slices_Index_int_int_exits : an_slices_Index_int_int.exits = [(0, []), (1, [0, 1, 7, 8])] := rfl
@[simp] theorem an_slices_Index_int_int_rets : an_slices_Index_int_int.rets = some [4] := rfl
@[simp] theorem an_slices_Index_int_int_keep : an_slices_Index_int_int.keep = [0, 4, 5, 7, 8] := rfl
@[simp] theorem an_slices_Index_int_int_cond : an_slices_Index_int_int.cond = [9, 16] := rfl
@[simp] theorem an_slices_Index_int_int_rows : an_slices_Index_int_int.rows = [] := rfl
@[simp] theorem an_slices_Index_int_int_loops : an_slices_Index_int_int.loops = [(2, [0, 1, 7, 8])] := rfl
@[simp] theorem an_slices_Index_int_int_ecalls : an_slices_Index_int_int.ecalls = [] := rfl
@[simp] theorem an_slices_Index_int_int_crows : an_slices_Index_int_int.crows = [] := rfl
@[simp] theorem an_slices_Index_int_int_tails : an_slices_Index_int_int.tails = [] := rfl
@[simp] noncomputable def cl_slices_Index_int_int : List (Nat × (List D → Option D)) := []
@[simp] noncomputable def ce_slices_Index_int_int : List (Nat × (List (Nat × O) → List D → Option (D × List (Nat × O)))) := []
noncomputable def c_slices_Index_int_int : CT := ⟨callOf (cl_slices_Index_int_int ), callOfE ce_slices_Index_int_int, gl⟩
@[simp] theorem c_slices_Index_int_int_p (f : FuncId) (ds : List D) : c_slices_Index_int_int.p f ds = callOf (cl_slices_Index_int_int ) f ds := Eq.trans rfl rfl
@[simp] theorem c_slices_Index_int_int_e (f : FuncId) (hs : List (Nat × O)) (ds : List D) : c_slices_Index_int_int.e f hs ds = callOfE ce_slices_Index_int_int f hs ds := Eq.trans rfl rfl
@[simp] theorem c_slices_Index_int_int_g (g : Nat) : c_slices_Index_int_int.g g = gl g := Eq.trans rfl rfl
noncomputable def L_slices_Index_int_int (i n : Nat) (s : St) : Option (E × St) := atN Tryd.prog c_slices_Index_int_int an_slices_Index_int_int 19 (bodyOf Tryd.f63) i n s
noncomputable def H_slices_Index_int_int (n i : Nat) (s : St) : Option (E × St) := atH Tryd.prog c_slices_Index_int_int an_slices_Index_int_int 19 (bodyOf Tryd.f63) n i s
@[simp] theorem H_slices_Index_int_int_eq (n i : Nat) (s : St) : H_slices_Index_int_int n i s = L_slices_Index_int_int i n (headOf (an_slices_Index_int_int.loops.lookup i) s) := rfl
noncomputable def R_slices_Index_int_int (i : Nat) (s : St) : Option (E × St) := stepL Tryd.prog c_slices_Index_int_int an_slices_Index_int_int 19 (bodyOf Tryd.f63) i s
theorem lok_slices_Index_int_int : okLoops (bodyOf Tryd.f63) = true := by kernel_rfl
theorem L_slices_Index_int_int_zero (i : Nat) (s : St) : L_slices_Index_int_int i 0 s = none := rfl
theorem L_slices_Index_int_int_succ (i n : Nat) (s : St) : L_slices_Index_int_int i (n + 1) s = andThen (R_slices_Index_int_int i s) (H_slices_Index_int_int n i) := atN_succ lok_slices_Index_int_int i n s
theorem R_slices_Index_int_int_eq (i : Nat) (s : St) : R_slices_Index_int_int i s = runS Tryd.prog c_slices_Index_int_int (H_slices_Index_int_int bigL) an_slices_Index_int_int 19 (loopAt (bodyOf Tryd.f63) i) s := rfl
noncomputable def F_slices_Index_int_int (ds : List D) : Option D := runF Tryd.prog c_slices_Index_int_int an_slices_Index_int_int 19 (bodyOf Tryd.f63) [.tmp 4] ds
theorem F_slices_Index_int_int_eq (ds : List D) : F_slices_Index_int_int ds = runG Tryd.prog c_slices_Index_int_int (H_slices_Index_int_int bigL) an_slices_Index_int_int 19 (bodyOf Tryd.f63) [.tmp 4] ds := runG_eq lok_slices_Index_int_int _ ds
theorem C_slices_Index_int_int (ds : List D) (r : D) (h : F_slices_Index_int_int ds = some r) : Contract Tryd.prog gl 63 ds r := contract_of mix Tryd.func63 rfl (by kernel_rfl) (by kernel_rfl) (by decide) (call := c_slices_Index_int_int) ⟨callOf_ok cl_slices_Index_int_int trivial, callOfE_ok ce_slices_Index_int_int trivial⟩ h
-- slices.Contains[[]int,int]: loops []; state: params 0..1, then [4]
attribute [simp] Tryd.f56
noncomputable def an_slices_Contains_int_int : Ann := ⟨[4], [], [], [], [], some [4], [], [], [], []⟩
@[simp] theorem an_slices_Contains_int_int_draws : an_slices_Contains_int_int.draws = [] := rfl
@[simp] theorem an_slices_Contains_int_int_exits : an_slices_Contains_int_int.exits = [] := rfl
@[simp] theorem an_slices_Contains_int_int_rets : an_slices_Contains_int_int.rets = some [4] := rfl
@[simp] theorem an_slices_Contains_int_int_keep : an_slices_Contains_int_int.keep = [4] := rfl
@[simp] theorem an_slices_Contains_int_int_cond : an_slices_Contains_int_int.cond = [] := rfl
@[simp] theorem an_slices_Contains_int_int_rows : an_slices_Contains_int_int.rows = [] := rfl
@[simp] theorem an_slices_Contains_int_int_loops : an_slices_Contains_int_int.loops = [] := rfl
@[simp] theorem an_slices_Contains_int_int_ecalls : an_slices_Contains_int_int.ecalls = [] := rfl
@[simp] theorem an_slices_Contains_int_int_crows : an_slices_Contains_int_int.crows = [] := rfl
@[simp] theorem an_slices_Contains_int_int_tails : an_slices_Contains_int_int.tails = [] := rfl
@[simp] noncomputable def cl_slices_Contains_int_int : List (Nat × (List D → Option D)) := [(63, F_slices_Index_int_int)]
@[simp] noncomputable def ce_slices_Contains_int_int : List (Nat × (List (Nat × O) → List D → Option (D × List (Nat × O)))) := []
noncomputable def c_slices_Contains_int_int : CT := ⟨callOf (cl_slices_Contains_int_int ), callOfE ce_slices_Contains_int_int, gl⟩
@[simp] theorem c_slices_Contains_int_int_p (f : FuncId) (ds : List D) : c_slices_Contains_int_int.p f ds = callOf (cl_slices_Contains_int_int ) f ds := Eq.trans rfl rfl
@[simp] theorem c_slices_Contains_int_int_e (f : FuncId) (hs : List (Nat × O)) (ds : List D) : c_slices_Contains_int_int.e f hs ds = callOfE ce_slices_Contains_int_int f hs ds := Eq.trans rfl rfl
@[simp] theorem c_slices_Contains_int_int_g (g : Nat) : c_slices_Contains_int_int.g g = gl g := Eq.trans rfl rfl
noncomputable def L_slices_Contains_int_int (i n : Nat) (s : St) : Option (E × St) := atN Tryd.prog c_slices_Contains_int_int an_slices_Contains_int_int 9 (bodyOf Tryd.f56) i n s
noncomputable def H_slices_Contains_int_int (n i : Nat) (s : St) : Option (E × St) := atH Tryd.prog c_slices_Contains_int_int an_slices_Contains_int_int 9 (bodyOf Tryd.f56) n i s
@[simp] theorem H_slices_Contains_int_int_eq (n i : Nat) (s : St) : H_slices_Contains_int_int n i s = L_slices_Contains_int_int i n (headOf (an_slices_Contains_int_int.loops.lookup i) s) := rfl
noncomputable def R_slices_Contains_int_int (i : Nat) (s : St) : Option (E × St) := stepL Tryd.prog c_slices_Contains_int_int an_slices_Contains_int_int 9 (bodyOf Tryd.f56) i s
theorem lok_slices_Contains_int_int : okLoops (bodyOf Tryd.f56) = true := by kernel_rfl
noncomputable def F_slices_Contains_int_int (ds : List D) : Option D := runF Tryd.prog c_slices_Contains_int_int an_slices_Contains_int_int 9 (bodyOf Tryd.f56) [.tmp 4] ds
theorem F_slices_Contains_int_int_eq (ds : List D) : F_slices_Contains_int_int ds = runG Tryd.prog c_slices_Contains_int_int (H_slices_Contains_int_int bigL) an_slices_Contains_int_int 9 (bodyOf Tryd.f56) [.tmp 4] ds := runG_eq lok_slices_Contains_int_int _ ds
theorem C_slices_Contains_int_int (ds : List D) (r : D) (h : F_slices_Contains_int_int ds = some r) : Contract Tryd.prog gl 56 ds r := contract_of mix Tryd.func56 rfl (by kernel_rfl) (by kernel_rfl) (by decide) (call := c_slices_Contains_int_int) ⟨callOf_ok cl_slices_Contains_int_int ⟨C_slices_Index_int_int, trivial⟩, callOfE_ok ce_slices_Contains_int_int trivial⟩ h
-- sawmill/air.toward: loops []; state: params 0..1, then [2, 4, 5, 6]
attribute [simp] Tryd.f47
noncomputable def an_air_toward : Ann := ⟨[1, 2, 4, 5, 6], [11, 16, 18], [], [], [(0, [2, 4]), (1, [2, 4]), (2, [2, 4]), (3, [2, 4])], some [4], [], [], [], []⟩
@[simp] theorem an_air_toward_draws : an_air_toward.draws = [] := rfl
@[simp] theorem an_air_toward_exits : an_air_toward.exits = [(0, [2, 4]), (1, [2, 4]), (2, [2, 4]), (3, [2, 4])] := rfl
@[simp] theorem an_air_toward_rets : an_air_toward.rets = some [4] := rfl
@[simp] theorem an_air_toward_keep : an_air_toward.keep = [1, 2, 4, 5, 6] := rfl
@[simp] theorem an_air_toward_cond : an_air_toward.cond = [11, 16, 18] := rfl
@[simp] theorem an_air_toward_rows : an_air_toward.rows = [] := rfl
@[simp] theorem an_air_toward_loops : an_air_toward.loops = [] := rfl
@[simp] theorem an_air_toward_ecalls : an_air_toward.ecalls = [] := rfl
@[simp] theorem an_air_toward_crows : an_air_toward.crows = [] := rfl
@[simp] theorem an_air_toward_tails : an_air_toward.tails = [] := rfl
@[simp] noncomputable def cl_air_toward : List (Nat × (List D → Option D)) := [(42, F_air_Outside), (56, F_slices_Contains_int_int)]
@[simp] noncomputable def ce_air_toward : List (Nat × (List (Nat × O) → List D → Option (D × List (Nat × O)))) := []
noncomputable def c_air_toward : CT := ⟨callOf (cl_air_toward ), callOfE ce_air_toward, gl⟩
@[simp] theorem c_air_toward_p (f : FuncId) (ds : List D) : c_air_toward.p f ds = callOf (cl_air_toward ) f ds := Eq.trans rfl rfl
@[simp] theorem c_air_toward_e (f : FuncId) (hs : List (Nat × O)) (ds : List D) : c_air_toward.e f hs ds = callOfE ce_air_toward f hs ds := Eq.trans rfl rfl
@[simp] theorem c_air_toward_g (g : Nat) : c_air_toward.g g = gl g := Eq.trans rfl rfl
noncomputable def L_air_toward (i n : Nat) (s : St) : Option (E × St) := atN Tryd.prog c_air_toward an_air_toward 30 (bodyOf Tryd.f47) i n s
noncomputable def H_air_toward (n i : Nat) (s : St) : Option (E × St) := atH Tryd.prog c_air_toward an_air_toward 30 (bodyOf Tryd.f47) n i s
@[simp] theorem H_air_toward_eq (n i : Nat) (s : St) : H_air_toward n i s = L_air_toward i n (headOf (an_air_toward.loops.lookup i) s) := rfl
noncomputable def R_air_toward (i : Nat) (s : St) : Option (E × St) := stepL Tryd.prog c_air_toward an_air_toward 30 (bodyOf Tryd.f47) i s
theorem lok_air_toward : okLoops (bodyOf Tryd.f47) = true := by kernel_rfl
noncomputable def F_air_toward (ds : List D) : Option D := runF Tryd.prog c_air_toward an_air_toward 30 (bodyOf Tryd.f47) [.cell 4 37] ds
theorem F_air_toward_eq (ds : List D) : F_air_toward ds = runG Tryd.prog c_air_toward (H_air_toward bigL) an_air_toward 30 (bodyOf Tryd.f47) [.cell 4 37] ds := runG_eq lok_air_toward _ ds
theorem C_air_toward (ds : List D) (r : D) (h : F_air_toward ds = some r) : Contract Tryd.prog gl 47 ds r := contract_of mix Tryd.func47 rfl (by kernel_rfl) (by kernel_rfl) (by decide) (call := c_air_toward) ⟨callOf_ok cl_air_toward ⟨C_air_Outside, C_slices_Contains_int_int, trivial⟩, callOfE_ok ce_air_toward trivial⟩ h
-- sawmill/air.Next: loops []; state: params 0..3, then [4, 5, 8, 9]
attribute [simp] Tryd.f33
noncomputable def an_air_Next : Ann := ⟨[2, 4, 5, 8, 9], [], [], [], [], some [8], [(4, 21)], [], [], []⟩
@[simp] theorem an_air_Next_draws : an_air_Next.draws = [(4, 21)] := rfl
@[simp] theorem an_air_Next_exits : an_air_Next.exits = [] := rfl
@[simp] theorem an_air_Next_rets : an_air_Next.rets = some [8] := rfl
@[simp] theorem an_air_Next_keep : an_air_Next.keep = [2, 4, 5, 8, 9] := rfl
@[simp] theorem an_air_Next_cond : an_air_Next.cond = [] := rfl
@[simp] theorem an_air_Next_rows : an_air_Next.rows = [] := rfl
@[simp] theorem an_air_Next_loops : an_air_Next.loops = [] := rfl
@[simp] theorem an_air_Next_ecalls : an_air_Next.ecalls = [] := rfl
@[simp] theorem an_air_Next_crows : an_air_Next.crows = [] := rfl
@[simp] theorem an_air_Next_tails : an_air_Next.tails = [] := rfl
@[simp] noncomputable def cl_air_Next : List (Nat × (List D → Option D)) := [(46, F_air_clamp), (47, F_air_toward), (48, F_units_Clamp)]
@[simp] noncomputable def ce_air_Next : List (Nat × (List (Nat × O) → List D → Option (D × List (Nat × O)))) := []
noncomputable def c_air_Next : CT := ⟨callOf (cl_air_Next ), callOfE ce_air_Next, gl⟩
@[simp] theorem c_air_Next_p (f : FuncId) (ds : List D) : c_air_Next.p f ds = callOf (cl_air_Next ) f ds := Eq.trans rfl rfl
@[simp] theorem c_air_Next_e (f : FuncId) (hs : List (Nat × O)) (ds : List D) : c_air_Next.e f hs ds = callOfE ce_air_Next f hs ds := Eq.trans rfl rfl
@[simp] theorem c_air_Next_g (g : Nat) : c_air_Next.g g = gl g := Eq.trans rfl rfl
noncomputable def L_air_Next (i n : Nat) (s : St) : Option (E × St) := atN Tryd.prog c_air_Next an_air_Next 41 (bodyOf Tryd.f33) i n s
noncomputable def H_air_Next (n i : Nat) (s : St) : Option (E × St) := atH Tryd.prog c_air_Next an_air_Next 41 (bodyOf Tryd.f33) n i s
@[simp] theorem H_air_Next_eq (n i : Nat) (s : St) : H_air_Next n i s = L_air_Next i n (headOf (an_air_Next.loops.lookup i) s) := rfl
noncomputable def R_air_Next (i : Nat) (s : St) : Option (E × St) := stepL Tryd.prog c_air_Next an_air_Next 41 (bodyOf Tryd.f33) i s
theorem lok_air_Next : okLoops (bodyOf Tryd.f33) = true := by kernel_rfl
noncomputable def F_air_Next (ds : List D) : Option D := runF Tryd.prog c_air_Next an_air_Next 41 (bodyOf Tryd.f33) [.cell 8 37] ds
theorem F_air_Next_eq (ds : List D) : F_air_Next ds = runG Tryd.prog c_air_Next (H_air_Next bigL) an_air_Next 41 (bodyOf Tryd.f33) [.cell 8 37] ds := runG_eq lok_air_Next _ ds
theorem C_air_Next (ds : List D) (r : D) (h : F_air_Next ds = some r) : Contract Tryd.prog gl 33 ds r := contract_of mix Tryd.func33 rfl (by kernel_rfl) (by kernel_rfl) (by decide) (call := c_air_Next) ⟨callOf_ok cl_air_Next ⟨C_air_clamp, C_air_toward, C_units_Clamp, trivial⟩, callOfE_ok ce_air_Next trivial⟩ h
-- sawmill/kiln.still: loops [2]; state: params 0..0, then [2, 4, 5, 6, 7]
attribute [simp] Tryd.f34
noncomputable def an_kiln_still : Ann := ⟨[2, 4, 5, 6, 7], [8, 21], [], [(2, [5, 6, 7])], [(0, []), (1, [5, 6, 7])], some [2], [], [], [], []⟩
@[simp] theorem an_kiln_still_draws : an_kiln_still.draws = [] := rfl
@[simp] theorem an_kiln_still_exits : an_kiln_still.exits = [(0, []), (1, [5, 6, 7])] := rfl
@[simp] theorem an_kiln_still_rets : an_kiln_still.rets = some [2] := rfl
@[simp] theorem an_kiln_still_keep : an_kiln_still.keep = [2, 4, 5, 6, 7] := rfl
@[simp] theorem an_kiln_still_cond : an_kiln_still.cond = [8, 21] := rfl
@[simp] theorem an_kiln_still_rows : an_kiln_still.rows = [] := rfl
@[simp] theorem an_kiln_still_loops : an_kiln_still.loops = [(2, [5, 6, 7])] := rfl
@[simp] theorem an_kiln_still_ecalls : an_kiln_still.ecalls = [] := rfl
@[simp] theorem an_kiln_still_crows : an_kiln_still.crows = [] := rfl
@[simp] theorem an_kiln_still_tails : an_kiln_still.tails = [] := rfl
@[simp] noncomputable def cl_kiln_still : List (Nat × (List D → Option D)) := []
@[simp] noncomputable def ce_kiln_still : List (Nat × (List (Nat × O) → List D → Option (D × List (Nat × O)))) := []
noncomputable def c_kiln_still : CT := ⟨callOf (cl_kiln_still ), callOfE ce_kiln_still, gl⟩
@[simp] theorem c_kiln_still_p (f : FuncId) (ds : List D) : c_kiln_still.p f ds = callOf (cl_kiln_still ) f ds := Eq.trans rfl rfl
@[simp] theorem c_kiln_still_e (f : FuncId) (hs : List (Nat × O)) (ds : List D) : c_kiln_still.e f hs ds = callOfE ce_kiln_still f hs ds := Eq.trans rfl rfl
@[simp] theorem c_kiln_still_g (g : Nat) : c_kiln_still.g g = gl g := Eq.trans rfl rfl
noncomputable def L_kiln_still (i n : Nat) (s : St) : Option (E × St) := atN Tryd.prog c_kiln_still an_kiln_still 23 (bodyOf Tryd.f34) i n s
noncomputable def H_kiln_still (n i : Nat) (s : St) : Option (E × St) := atH Tryd.prog c_kiln_still an_kiln_still 23 (bodyOf Tryd.f34) n i s
@[simp] theorem H_kiln_still_eq (n i : Nat) (s : St) : H_kiln_still n i s = L_kiln_still i n (headOf (an_kiln_still.loops.lookup i) s) := rfl
noncomputable def R_kiln_still (i : Nat) (s : St) : Option (E × St) := stepL Tryd.prog c_kiln_still an_kiln_still 23 (bodyOf Tryd.f34) i s
theorem lok_kiln_still : okLoops (bodyOf Tryd.f34) = true := by kernel_rfl
theorem L_kiln_still_zero (i : Nat) (s : St) : L_kiln_still i 0 s = none := rfl
theorem L_kiln_still_succ (i n : Nat) (s : St) : L_kiln_still i (n + 1) s = andThen (R_kiln_still i s) (H_kiln_still n i) := atN_succ lok_kiln_still i n s
theorem R_kiln_still_eq (i : Nat) (s : St) : R_kiln_still i s = runS Tryd.prog c_kiln_still (H_kiln_still bigL) an_kiln_still 23 (loopAt (bodyOf Tryd.f34) i) s := rfl
noncomputable def F_kiln_still (ds : List D) : Option D := runF Tryd.prog c_kiln_still an_kiln_still 23 (bodyOf Tryd.f34) [.tmp 2] ds
theorem F_kiln_still_eq (ds : List D) : F_kiln_still ds = runG Tryd.prog c_kiln_still (H_kiln_still bigL) an_kiln_still 23 (bodyOf Tryd.f34) [.tmp 2] ds := runG_eq lok_kiln_still _ ds
theorem C_kiln_still (ds : List D) (r : D) (h : F_kiln_still ds = some r) : Contract Tryd.prog gl 34 ds r := contract_of mix Tryd.func34 rfl (by kernel_rfl) (by kernel_rfl) (by decide) (call := c_kiln_still) ⟨callOf_ok cl_kiln_still trivial, callOfE_ok ce_kiln_still trivial⟩ h
-- sawmill/air.Check: loops []; state: params 0..0, then [1, 2]
attribute [simp] Tryd.f64
noncomputable def an_air_Check : Ann := ⟨[1, 2], [20], [], [], [], some [2], [], [], [], []⟩
@[simp] theorem an_air_Check_draws : an_air_Check.draws = [] := rfl
@[simp] theorem an_air_Check_exits : an_air_Check.exits = [] := rfl
@[simp] theorem an_air_Check_rets : an_air_Check.rets = some [2] := rfl
@[simp] theorem an_air_Check_keep : an_air_Check.keep = [1, 2] := rfl
@[simp] theorem an_air_Check_cond : an_air_Check.cond = [20] := rfl
@[simp] theorem an_air_Check_rows : an_air_Check.rows = [] := rfl
@[simp] theorem an_air_Check_loops : an_air_Check.loops = [] := rfl
@[simp] theorem an_air_Check_ecalls : an_air_Check.ecalls = [] := rfl
@[simp] theorem an_air_Check_crows : an_air_Check.crows = [] := rfl
@[simp] theorem an_air_Check_tails : an_air_Check.tails = [] := rfl
@[simp] noncomputable def cl_air_Check : List (Nat × (List D → Option D)) := []
@[simp] noncomputable def ce_air_Check : List (Nat × (List (Nat × O) → List D → Option (D × List (Nat × O)))) := []
noncomputable def c_air_Check : CT := ⟨callOf (cl_air_Check ), callOfE ce_air_Check, gl⟩
@[simp] theorem c_air_Check_p (f : FuncId) (ds : List D) : c_air_Check.p f ds = callOf (cl_air_Check ) f ds := Eq.trans rfl rfl
@[simp] theorem c_air_Check_e (f : FuncId) (hs : List (Nat × O)) (ds : List D) : c_air_Check.e f hs ds = callOfE ce_air_Check f hs ds := Eq.trans rfl rfl
@[simp] theorem c_air_Check_g (g : Nat) : c_air_Check.g g = gl g := Eq.trans rfl rfl
noncomputable def L_air_Check (i n : Nat) (s : St) : Option (E × St) := atN Tryd.prog c_air_Check an_air_Check 21 (bodyOf Tryd.f64) i n s
noncomputable def H_air_Check (n i : Nat) (s : St) : Option (E × St) := atH Tryd.prog c_air_Check an_air_Check 21 (bodyOf Tryd.f64) n i s
@[simp] theorem H_air_Check_eq (n i : Nat) (s : St) : H_air_Check n i s = L_air_Check i n (headOf (an_air_Check.loops.lookup i) s) := rfl
noncomputable def R_air_Check (i : Nat) (s : St) : Option (E × St) := stepL Tryd.prog c_air_Check an_air_Check 21 (bodyOf Tryd.f64) i s
theorem lok_air_Check : okLoops (bodyOf Tryd.f64) = true := by kernel_rfl
noncomputable def F_air_Check (ds : List D) : Option D := runF Tryd.prog c_air_Check an_air_Check 21 (bodyOf Tryd.f64) [.tmp 2] ds
theorem F_air_Check_eq (ds : List D) : F_air_Check ds = runG Tryd.prog c_air_Check (H_air_Check bigL) an_air_Check 21 (bodyOf Tryd.f64) [.tmp 2] ds := runG_eq lok_air_Check _ ds
theorem C_air_Check (ds : List D) (r : D) (h : F_air_Check ds = some r) : Contract Tryd.prog gl 64 ds r := contract_of mix Tryd.func64 rfl (by kernel_rfl) (by kernel_rfl) (by decide) (call := c_air_Check) ⟨callOf_ok cl_air_Check trivial, callOfE_ok ce_air_Check trivial⟩ h
-- sawmill/moist.computable: loops []; state: params 0..3, then [4, 5, 7, 8]
attribute [simp] Tryd.f57
noncomputable def an_moist_computable : Ann := ⟨[4, 5, 7, 8], [], [], [], [], some [8], [], [], [], []⟩
@[simp] theorem an_moist_computable_draws : an_moist_computable.draws = [] := rfl
@[simp] theorem an_moist_computable_exits : an_moist_computable.exits = [] := rfl
@[simp] theorem an_moist_computable_rets : an_moist_computable.rets = some [8] := rfl
@[simp] theorem an_moist_computable_keep : an_moist_computable.keep = [4, 5, 7, 8] := rfl
@[simp] theorem an_moist_computable_cond : an_moist_computable.cond = [] := rfl
@[simp] theorem an_moist_computable_rows : an_moist_computable.rows = [] := rfl
@[simp] theorem an_moist_computable_loops : an_moist_computable.loops = [] := rfl
@[simp] theorem an_moist_computable_ecalls : an_moist_computable.ecalls = [] := rfl
@[simp] theorem an_moist_computable_crows : an_moist_computable.crows = [] := rfl
@[simp] theorem an_moist_computable_tails : an_moist_computable.tails = [] := rfl
@[simp] noncomputable def cl_moist_computable : List (Nat × (List D → Option D)) := [(17, F_moist_Check), (64, F_air_Check)]
@[simp] noncomputable def ce_moist_computable : List (Nat × (List (Nat × O) → List D → Option (D × List (Nat × O)))) := []
noncomputable def c_moist_computable : CT := ⟨callOf (cl_moist_computable ), callOfE ce_moist_computable, gl⟩
@[simp] theorem c_moist_computable_p (f : FuncId) (ds : List D) : c_moist_computable.p f ds = callOf (cl_moist_computable ) f ds := Eq.trans rfl rfl
@[simp] theorem c_moist_computable_e (f : FuncId) (hs : List (Nat × O)) (ds : List D) : c_moist_computable.e f hs ds = callOfE ce_moist_computable f hs ds := Eq.trans rfl rfl
@[simp] theorem c_moist_computable_g (g : Nat) : c_moist_computable.g g = gl g := Eq.trans rfl rfl
noncomputable def L_moist_computable (i n : Nat) (s : St) : Option (E × St) := atN Tryd.prog c_moist_computable an_moist_computable 55 (bodyOf Tryd.f57) i n s
noncomputable def H_moist_computable (n i : Nat) (s : St) : Option (E × St) := atH Tryd.prog c_moist_computable an_moist_computable 55 (bodyOf Tryd.f57) n i s
@[simp] theorem H_moist_computable_eq (n i : Nat) (s : St) : H_moist_computable n i s = L_moist_computable i n (headOf (an_moist_computable.loops.lookup i) s) := rfl
noncomputable def R_moist_computable (i : Nat) (s : St) : Option (E × St) := stepL Tryd.prog c_moist_computable an_moist_computable 55 (bodyOf Tryd.f57) i s
theorem lok_moist_computable : okLoops (bodyOf Tryd.f57) = true := by kernel_rfl
noncomputable def F_moist_computable (ds : List D) : Option D := runF Tryd.prog c_moist_computable an_moist_computable 55 (bodyOf Tryd.f57) [.tmp 8] ds
theorem F_moist_computable_eq (ds : List D) : F_moist_computable ds = runG Tryd.prog c_moist_computable (H_moist_computable bigL) an_moist_computable 55 (bodyOf Tryd.f57) [.tmp 8] ds := runG_eq lok_moist_computable _ ds
theorem C_moist_computable (ds : List D) (r : D) (h : F_moist_computable ds = some r) : Contract Tryd.prog gl 57 ds r := contract_of mix Tryd.func57 rfl (by kernel_rfl) (by kernel_rfl) (by decide) (call := c_moist_computable) ⟨callOf_ok cl_moist_computable ⟨C_moist_Check, C_air_Check, trivial⟩, callOfE_ok ce_moist_computable trivial⟩ h
-- sawmill/air.Table: loops []; state: params 0..-1, then [0]
attribute [simp] Tryd.f68
noncomputable def an_air_Table : Ann := ⟨[0], [], [], [], [], some [0], [], [], [], []⟩
@[simp] theorem an_air_Table_draws : an_air_Table.draws = [] := rfl
@[simp] theorem an_air_Table_exits : an_air_Table.exits = [] := rfl
@[simp] theorem an_air_Table_rets : an_air_Table.rets = some [0] := rfl
@[simp] theorem an_air_Table_keep : an_air_Table.keep = [0] := rfl
@[simp] theorem an_air_Table_cond : an_air_Table.cond = [] := rfl
@[simp] theorem an_air_Table_rows : an_air_Table.rows = [] := rfl
@[simp] theorem an_air_Table_loops : an_air_Table.loops = [] := rfl
@[simp] theorem an_air_Table_ecalls : an_air_Table.ecalls = [] := rfl
@[simp] theorem an_air_Table_crows : an_air_Table.crows = [] := rfl
@[simp] theorem an_air_Table_tails : an_air_Table.tails = [] := rfl
@[simp] noncomputable def cl_air_Table : List (Nat × (List D → Option D)) := []
@[simp] noncomputable def ce_air_Table : List (Nat × (List (Nat × O) → List D → Option (D × List (Nat × O)))) := []
noncomputable def c_air_Table : CT := ⟨callOf (cl_air_Table ), callOfE ce_air_Table, gl⟩
@[simp] theorem c_air_Table_p (f : FuncId) (ds : List D) : c_air_Table.p f ds = callOf (cl_air_Table ) f ds := Eq.trans rfl rfl
@[simp] theorem c_air_Table_e (f : FuncId) (hs : List (Nat × O)) (ds : List D) : c_air_Table.e f hs ds = callOfE ce_air_Table f hs ds := Eq.trans rfl rfl
@[simp] theorem c_air_Table_g (g : Nat) : c_air_Table.g g = gl g := Eq.trans rfl rfl
noncomputable def L_air_Table (i n : Nat) (s : St) : Option (E × St) := atN Tryd.prog c_air_Table an_air_Table 11 (bodyOf Tryd.f68) i n s
noncomputable def H_air_Table (n i : Nat) (s : St) : Option (E × St) := atH Tryd.prog c_air_Table an_air_Table 11 (bodyOf Tryd.f68) n i s
@[simp] theorem H_air_Table_eq (n i : Nat) (s : St) : H_air_Table n i s = L_air_Table i n (headOf (an_air_Table.loops.lookup i) s) := rfl
noncomputable def R_air_Table (i : Nat) (s : St) : Option (E × St) := stepL Tryd.prog c_air_Table an_air_Table 11 (bodyOf Tryd.f68) i s
theorem lok_air_Table : okLoops (bodyOf Tryd.f68) = true := by kernel_rfl
noncomputable def F_air_Table (ds : List D) : Option D := runF Tryd.prog c_air_Table an_air_Table 11 (bodyOf Tryd.f68) [.cell 0 109] ds
theorem F_air_Table_eq (ds : List D) : F_air_Table ds = runG Tryd.prog c_air_Table (H_air_Table bigL) an_air_Table 11 (bodyOf Tryd.f68) [.cell 0 109] ds := runG_eq lok_air_Table _ ds
theorem C_air_Table (ds : List D) (r : D) (h : F_air_Table ds = some r) : Contract Tryd.prog gl 68 ds r := contract_of mix Tryd.func68 rfl (by kernel_rfl) (by kernel_rfl) (by decide) (call := c_air_Table) ⟨callOf_ok cl_air_Table trivial, callOfE_ok ce_air_Table trivial⟩ h
-- sawmill/curve.inRange: loops []; state: params 0..0, then [2]
attribute [simp] Tryd.f75
noncomputable def an_curve_inRange : Ann := ⟨[2], [], [], [], [], some [2], [], [], [], []⟩
@[simp] theorem an_curve_inRange_draws : an_curve_inRange.draws = [] := rfl
@[simp] theorem an_curve_inRange_exits : an_curve_inRange.exits = [] := rfl
@[simp] theorem an_curve_inRange_rets : an_curve_inRange.rets = some [2] := rfl
@[simp] theorem an_curve_inRange_keep : an_curve_inRange.keep = [2] := rfl
@[simp] theorem an_curve_inRange_cond : an_curve_inRange.cond = [] := rfl
@[simp] theorem an_curve_inRange_rows : an_curve_inRange.rows = [] := rfl
@[simp] theorem an_curve_inRange_loops : an_curve_inRange.loops = [] := rfl
@[simp] theorem an_curve_inRange_ecalls : an_curve_inRange.ecalls = [] := rfl
@[simp] theorem an_curve_inRange_crows : an_curve_inRange.crows = [] := rfl
@[simp] theorem an_curve_inRange_tails : an_curve_inRange.tails = [] := rfl
@[simp] noncomputable def cl_curve_inRange : List (Nat × (List D → Option D)) := []
@[simp] noncomputable def ce_curve_inRange : List (Nat × (List (Nat × O) → List D → Option (D × List (Nat × O)))) := []
noncomputable def c_curve_inRange : CT := ⟨callOf (cl_curve_inRange ), callOfE ce_curve_inRange, gl⟩
@[simp] theorem c_curve_inRange_p (f : FuncId) (ds : List D) : c_curve_inRange.p f ds = callOf (cl_curve_inRange ) f ds := Eq.trans rfl rfl
@[simp] theorem c_curve_inRange_e (f : FuncId) (hs : List (Nat × O)) (ds : List D) : c_curve_inRange.e f hs ds = callOfE ce_curve_inRange f hs ds := Eq.trans rfl rfl
@[simp] theorem c_curve_inRange_g (g : Nat) : c_curve_inRange.g g = gl g := Eq.trans rfl rfl
noncomputable def L_curve_inRange (i n : Nat) (s : St) : Option (E × St) := atN Tryd.prog c_curve_inRange an_curve_inRange 9 (bodyOf Tryd.f75) i n s
noncomputable def H_curve_inRange (n i : Nat) (s : St) : Option (E × St) := atH Tryd.prog c_curve_inRange an_curve_inRange 9 (bodyOf Tryd.f75) n i s
@[simp] theorem H_curve_inRange_eq (n i : Nat) (s : St) : H_curve_inRange n i s = L_curve_inRange i n (headOf (an_curve_inRange.loops.lookup i) s) := rfl
noncomputable def R_curve_inRange (i : Nat) (s : St) : Option (E × St) := stepL Tryd.prog c_curve_inRange an_curve_inRange 9 (bodyOf Tryd.f75) i s
theorem lok_curve_inRange : okLoops (bodyOf Tryd.f75) = true := by kernel_rfl
noncomputable def F_curve_inRange (ds : List D) : Option D := runF Tryd.prog c_curve_inRange an_curve_inRange 9 (bodyOf Tryd.f75) [.tmp 2] ds
theorem F_curve_inRange_eq (ds : List D) : F_curve_inRange ds = runG Tryd.prog c_curve_inRange (H_curve_inRange bigL) an_curve_inRange 9 (bodyOf Tryd.f75) [.tmp 2] ds := runG_eq lok_curve_inRange _ ds
theorem C_curve_inRange (ds : List D) (r : D) (h : F_curve_inRange ds = some r) : Contract Tryd.prog gl 75 ds r := contract_of mix Tryd.func75 rfl (by kernel_rfl) (by kernel_rfl) (by decide) (call := c_curve_inRange) ⟨callOf_ok cl_curve_inRange trivial, callOfE_ok ce_curve_inRange trivial⟩ h
-- sawmill/curve.checkAxis: loops [2]; state: params 0..0, then [2, 3, 4, 5, 6, 7]
attribute [simp] Tryd.f74
noncomputable def an_curve_checkAxis : Ann := ⟨[0, 2, 3, 4, 5, 6, 7], [8, 14, 25], [], [(2, [0, 5, 6, 7])], [(0, []), (1, [0, 5, 6, 7])], some [2], [], [], [], []⟩
@[simp] theorem an_curve_checkAxis_draws : an_curve_checkAxis.draws = [] := rfl
@[simp] theorem an_curve_checkAxis_exits : an_curve_checkAxis.exits = [(0, []), (1, [0, 5, 6, 7])] := rfl
@[simp] theorem an_curve_checkAxis_rets : an_curve_checkAxis.rets = some [2] := rfl
@[simp] theorem an_curve_checkAxis_keep : an_curve_checkAxis.keep = [0, 2, 3, 4, 5, 6, 7] := rfl
@[simp] theorem an_curve_checkAxis_cond : an_curve_checkAxis.cond = [8, 14, 25] := rfl
@[simp] theorem an_curve_checkAxis_rows : an_curve_checkAxis.rows = [] := rfl
@[simp] theorem an_curve_checkAxis_loops : an_curve_checkAxis.loops = [(2, [0, 5, 6, 7])] := rfl
@[simp] theorem an_curve_checkAxis_ecalls : an_curve_checkAxis.ecalls = [] := rfl
@[simp] theorem an_curve_checkAxis_crows : an_curve_checkAxis.crows = [] := rfl
@[simp] theorem an_curve_checkAxis_tails : an_curve_checkAxis.tails = [] := rfl
@[simp] noncomputable def cl_curve_checkAxis : List (Nat × (List D → Option D)) := [(75, F_curve_inRange)]
@[simp] noncomputable def ce_curve_checkAxis : List (Nat × (List (Nat × O) → List D → Option (D × List (Nat × O)))) := []
noncomputable def c_curve_checkAxis : CT := ⟨callOf (cl_curve_checkAxis ), callOfE ce_curve_checkAxis, gl⟩
@[simp] theorem c_curve_checkAxis_p (f : FuncId) (ds : List D) : c_curve_checkAxis.p f ds = callOf (cl_curve_checkAxis ) f ds := Eq.trans rfl rfl
@[simp] theorem c_curve_checkAxis_e (f : FuncId) (hs : List (Nat × O)) (ds : List D) : c_curve_checkAxis.e f hs ds = callOfE ce_curve_checkAxis f hs ds := Eq.trans rfl rfl
@[simp] theorem c_curve_checkAxis_g (g : Nat) : c_curve_checkAxis.g g = gl g := Eq.trans rfl rfl
noncomputable def L_curve_checkAxis (i n : Nat) (s : St) : Option (E × St) := atN Tryd.prog c_curve_checkAxis an_curve_checkAxis 27 (bodyOf Tryd.f74) i n s
noncomputable def H_curve_checkAxis (n i : Nat) (s : St) : Option (E × St) := atH Tryd.prog c_curve_checkAxis an_curve_checkAxis 27 (bodyOf Tryd.f74) n i s
@[simp] theorem H_curve_checkAxis_eq (n i : Nat) (s : St) : H_curve_checkAxis n i s = L_curve_checkAxis i n (headOf (an_curve_checkAxis.loops.lookup i) s) := rfl
noncomputable def R_curve_checkAxis (i : Nat) (s : St) : Option (E × St) := stepL Tryd.prog c_curve_checkAxis an_curve_checkAxis 27 (bodyOf Tryd.f74) i s
theorem lok_curve_checkAxis : okLoops (bodyOf Tryd.f74) = true := by kernel_rfl
theorem L_curve_checkAxis_zero (i : Nat) (s : St) : L_curve_checkAxis i 0 s = none := rfl
theorem L_curve_checkAxis_succ (i n : Nat) (s : St) : L_curve_checkAxis i (n + 1) s = andThen (R_curve_checkAxis i s) (H_curve_checkAxis n i) := atN_succ lok_curve_checkAxis i n s
theorem R_curve_checkAxis_eq (i : Nat) (s : St) : R_curve_checkAxis i s = runS Tryd.prog c_curve_checkAxis (H_curve_checkAxis bigL) an_curve_checkAxis 27 (loopAt (bodyOf Tryd.f74) i) s := rfl
noncomputable def F_curve_checkAxis (ds : List D) : Option D := runF Tryd.prog c_curve_checkAxis an_curve_checkAxis 27 (bodyOf Tryd.f74) [.tmp 2] ds
theorem F_curve_checkAxis_eq (ds : List D) : F_curve_checkAxis ds = runG Tryd.prog c_curve_checkAxis (H_curve_checkAxis bigL) an_curve_checkAxis 27 (bodyOf Tryd.f74) [.tmp 2] ds := runG_eq lok_curve_checkAxis _ ds
theorem C_curve_checkAxis (ds : List D) (r : D) (h : F_curve_checkAxis ds = some r) : Contract Tryd.prog gl 74 ds r := contract_of mix Tryd.func74 rfl (by kernel_rfl) (by kernel_rfl) (by decide) (call := c_curve_checkAxis) ⟨callOf_ok cl_curve_checkAxis ⟨C_curve_inRange, trivial⟩, callOfE_ok ce_curve_checkAxis trivial⟩ h
-- sawmill/curve.CheckGrid: loops [14, 19]; state: params 0..0, then [1, 2, 3, 4, 6, 8, 49, 50, 51, 61, 62, 63]
attribute [simp] Tryd.f70
noncomputable def an_curve_CheckGrid : Ann := ⟨[1, 2, 3, 4, 6, 8, 49, 50, 51, 61, 62, 63], [18, 28, 33, 39, 47, 52, 60, 64, 69], [], [(14, [1, 49, 50, 51]), (19, [1, 49, 50, 51, 61, 62, 63])], [(0, []), (1, [1, 49, 50, 51]), (2, [1, 49, 50, 51]), (3, [1, 49, 50, 51, 61, 62, 63])], some [2], [], [], [], []⟩
@[simp] theorem an_curve_CheckGrid_draws : an_curve_CheckGrid.draws = [] := rfl
@[simp] theorem an_curve_CheckGrid_exits : an_curve_CheckGrid.exits = [(0, []), (1, [1, 49, 50, 51]), (2, [1, 49, 50, 51]), (3, [1, 49, 50, 51, 61, 62, 63])] := rfl
@[simp] theorem an_curve_CheckGrid_rets : an_curve_CheckGrid.rets = some [2] := rfl
@[simp] theorem an_curve_CheckGrid_keep : an_curve_CheckGrid.keep = [1, 2, 3, 4, 6, 8, 49, 50, 51, 61, 62, 63] := rfl
@[simp] theorem an_curve_CheckGrid_cond : an_curve_CheckGrid.cond = [18, 28, 33, 39, 47, 52, 60, 64, 69] := rfl
@[simp] theorem an_curve_CheckGrid_rows : an_curve_CheckGrid.rows = [] := rfl
@[simp] theorem an_curve_CheckGrid_loops : an_curve_CheckGrid.loops = [(14, [1, 49, 50, 51]), (19, [1, 49, 50, 51, 61, 62, 63])] := rfl
@[simp] theorem an_curve_CheckGrid_ecalls : an_curve_CheckGrid.ecalls = [] := rfl
@[simp] theorem an_curve_CheckGrid_crows : an_curve_CheckGrid.crows = [] := rfl
@[simp] theorem an_curve_CheckGrid_tails : an_curve_CheckGrid.tails = [] := rfl
@[simp] noncomputable def cl_curve_CheckGrid : List (Nat × (List D → Option D)) := [(74, F_curve_checkAxis), (75, F_curve_inRange)]
@[simp] noncomputable def ce_curve_CheckGrid : List (Nat × (List (Nat × O) → List D → Option (D × List (Nat × O)))) := []
noncomputable def c_curve_CheckGrid : CT := ⟨callOf (cl_curve_CheckGrid ), callOfE ce_curve_CheckGrid, gl⟩
@[simp] theorem c_curve_CheckGrid_p (f : FuncId) (ds : List D) : c_curve_CheckGrid.p f ds = callOf (cl_curve_CheckGrid ) f ds := Eq.trans rfl rfl
@[simp] theorem c_curve_CheckGrid_e (f : FuncId) (hs : List (Nat × O)) (ds : List D) : c_curve_CheckGrid.e f hs ds = callOfE ce_curve_CheckGrid f hs ds := Eq.trans rfl rfl
@[simp] theorem c_curve_CheckGrid_g (g : Nat) : c_curve_CheckGrid.g g = gl g := Eq.trans rfl rfl
noncomputable def L_curve_CheckGrid (i n : Nat) (s : St) : Option (E × St) := atN Tryd.prog c_curve_CheckGrid an_curve_CheckGrid 72 (bodyOf Tryd.f70) i n s
noncomputable def H_curve_CheckGrid (n i : Nat) (s : St) : Option (E × St) := atH Tryd.prog c_curve_CheckGrid an_curve_CheckGrid 72 (bodyOf Tryd.f70) n i s
@[simp] theorem H_curve_CheckGrid_eq (n i : Nat) (s : St) : H_curve_CheckGrid n i s = L_curve_CheckGrid i n (headOf (an_curve_CheckGrid.loops.lookup i) s) := rfl
noncomputable def R_curve_CheckGrid (i : Nat) (s : St) : Option (E × St) := stepL Tryd.prog c_curve_CheckGrid an_curve_CheckGrid 72 (bodyOf Tryd.f70) i s
theorem lok_curve_CheckGrid : okLoops (bodyOf Tryd.f70) = true := by kernel_rfl
theorem L_curve_CheckGrid_zero (i : Nat) (s : St) : L_curve_CheckGrid i 0 s = none := rfl
theorem L_curve_CheckGrid_succ (i n : Nat) (s : St) : L_curve_CheckGrid i (n + 1) s = andThen (R_curve_CheckGrid i s) (H_curve_CheckGrid n i) := atN_succ lok_curve_CheckGrid i n s
theorem R_curve_CheckGrid_eq (i : Nat) (s : St) : R_curve_CheckGrid i s = runS Tryd.prog c_curve_CheckGrid (H_curve_CheckGrid bigL) an_curve_CheckGrid 72 (loopAt (bodyOf Tryd.f70) i) s := rfl
noncomputable def F_curve_CheckGrid (ds : List D) : Option D := runF Tryd.prog c_curve_CheckGrid an_curve_CheckGrid 72 (bodyOf Tryd.f70) [.tmp 2] ds
theorem F_curve_CheckGrid_eq (ds : List D) : F_curve_CheckGrid ds = runG Tryd.prog c_curve_CheckGrid (H_curve_CheckGrid bigL) an_curve_CheckGrid 72 (bodyOf Tryd.f70) [.tmp 2] ds := runG_eq lok_curve_CheckGrid _ ds
theorem C_curve_CheckGrid (ds : List D) (r : D) (h : F_curve_CheckGrid ds = some r) : Contract Tryd.prog gl 70 ds r := contract_of mix Tryd.func70 rfl (by kernel_rfl) (by kernel_rfl) (by decide) (call := c_curve_CheckGrid) ⟨callOf_ok cl_curve_CheckGrid ⟨C_curve_checkAxis, C_curve_inRange, trivial⟩, callOfE_ok ce_curve_CheckGrid trivial⟩ h
-- sawmill/curve.points: loops [3]; state: params 0..1, then [4, 5, 6, 11, 12]
attribute [simp] Tryd.f72
noncomputable def an_curve_points : Ann := ⟨[0, 4, 5, 6, 11, 12], [13], [5], [(3, [0, 1, 5, 11, 12])], [(0, [5]), (1, [0, 1, 5, 11, 12])], some [4], [(5, 11)], [], [], []⟩
@[simp] theorem an_curve_points_draws : an_curve_points.draws = [(5, 11)] := rfl
@[simp] theorem an_curve_points_exits : an_curve_points.exits = [(0, [5]), (1, [0, 1, 5, 11, 12])] := rfl
@[simp] theorem an_curve_points_rets : an_curve_points.rets = some [4] := rfl
@[simp] theorem an_curve_points_keep : an_curve_points.keep = [0, 4, 5, 6, 11, 12] := rfl
@[simp] theorem an_curve_points_cond : an_curve_points.cond = [13] := rfl
@[simp] theorem an_curve_points_rows : an_curve_points.rows = [5] := rfl
@[simp] theorem an_curve_points_loops : an_curve_points.loops = [(3, [0, 1, 5, 11, 12])] := rfl
@[simp] theorem an_curve_points_ecalls : an_curve_points.ecalls = [] := rfl
@[simp] theorem an_curve_points_crows : an_curve_points.crows = [] := rfl
@[simp] theorem an_curve_points_tails : an_curve_points.tails = [] := rfl
@[simp] noncomputable def cl_curve_points : List (Nat × (List D → Option D)) := []
@[simp] noncomputable def ce_curve_points : List (Nat × (List (Nat × O) → List D → Option (D × List (Nat × O)))) := []
noncomputable def c_curve_points : CT := ⟨callOf (cl_curve_points ), callOfE ce_curve_points, gl⟩
@[simp] theorem c_curve_points_p (f : FuncId) (ds : List D) : c_curve_points.p f ds = callOf (cl_curve_points ) f ds := Eq.trans rfl rfl
@[simp] theorem c_curve_points_e (f : FuncId) (hs : List (Nat × O)) (ds : List D) : c_curve_points.e f hs ds = callOfE ce_curve_points f hs ds := Eq.trans rfl rfl
@[simp] theorem c_curve_points_g (g : Nat) : c_curve_points.g g = gl g := Eq.trans rfl rfl
noncomputable def L_curve_points (i n : Nat) (s : St) : Option (E × St) := atN Tryd.prog c_curve_points an_curve_points 29 (bodyOf Tryd.f72) i n s
noncomputable def H_curve_points (n i : Nat) (s : St) : Option (E × St) := atH Tryd.prog c_curve_points an_curve_points 29 (bodyOf Tryd.f72) n i s
@[simp] theorem H_curve_points_eq (n i : Nat) (s : St) : H_curve_points n i s = L_curve_points i n (headOf (an_curve_points.loops.lookup i) s) := rfl
noncomputable def R_curve_points (i : Nat) (s : St) : Option (E × St) := stepL Tryd.prog c_curve_points an_curve_points 29 (bodyOf Tryd.f72) i s
theorem lok_curve_points : okLoops (bodyOf Tryd.f72) = true := by kernel_rfl
theorem L_curve_points_zero (i : Nat) (s : St) : L_curve_points i 0 s = none := rfl
theorem L_curve_points_succ (i n : Nat) (s : St) : L_curve_points i (n + 1) s = andThen (R_curve_points i s) (H_curve_points n i) := atN_succ lok_curve_points i n s
theorem R_curve_points_eq (i : Nat) (s : St) : R_curve_points i s = runS Tryd.prog c_curve_points (H_curve_points bigL) an_curve_points 29 (loopAt (bodyOf Tryd.f72) i) s := rfl
noncomputable def F_curve_points (ds : List D) : Option D := runF Tryd.prog c_curve_points an_curve_points 29 (bodyOf Tryd.f72) [.tmp 4] ds
theorem F_curve_points_eq (ds : List D) : F_curve_points ds = runG Tryd.prog c_curve_points (H_curve_points bigL) an_curve_points 29 (bodyOf Tryd.f72) [.tmp 4] ds := runG_eq lok_curve_points _ ds
theorem C_curve_points (ds : List D) (r : D) (h : F_curve_points ds = some r) : Contract Tryd.prog gl 72 ds r := contract_of mix Tryd.func72 rfl (by kernel_rfl) (by kernel_rfl) (by decide) (call := c_curve_points) ⟨callOf_ok cl_curve_points trivial, callOfE_ok ce_curve_points trivial⟩ h
-- sawmill/curve.Check: loops [6]; state: params 0..0, then [2, 3, 4, 11, 12, 13]
attribute [simp] Tryd.f76
noncomputable def an_curve_Check : Ann := ⟨[0, 2, 3, 4, 11, 12, 13], [7, 10, 14, 27, 40], [], [(6, [0, 11, 12, 13])], [(0, []), (1, [0, 11, 12, 13])], some [2], [(10, 11)], [], [], []⟩
@[simp] theorem an_curve_Check_draws : an_curve_Check.draws = [(10, 11)] := rfl
@[simp] theorem an_curve_Check_exits : an_curve_Check.exits = [(0, []), (1, [0, 11, 12, 13])] := rfl
@[simp] theorem an_curve_Check_rets : an_curve_Check.rets = some [2] := rfl
@[simp] theorem an_curve_Check_keep : an_curve_Check.keep = [0, 2, 3, 4, 11, 12, 13] := rfl
@[simp] theorem an_curve_Check_cond : an_curve_Check.cond = [7, 10, 14, 27, 40] := rfl
@[simp] theorem an_curve_Check_rows : an_curve_Check.rows = [] := rfl
@[simp] theorem an_curve_Check_loops : an_curve_Check.loops = [(6, [0, 11, 12, 13])] := rfl
@[simp] theorem an_curve_Check_ecalls : an_curve_Check.ecalls = [] := rfl
@[simp] theorem an_curve_Check_crows : an_curve_Check.crows = [] := rfl
@[simp] theorem an_curve_Check_tails : an_curve_Check.tails = [] := rfl
@[simp] noncomputable def cl_curve_Check : List (Nat × (List D → Option D)) := [(75, F_curve_inRange)]
@[simp] noncomputable def ce_curve_Check : List (Nat × (List (Nat × O) → List D → Option (D × List (Nat × O)))) := []
noncomputable def c_curve_Check : CT := ⟨callOf (cl_curve_Check ), callOfE ce_curve_Check, gl⟩
@[simp] theorem c_curve_Check_p (f : FuncId) (ds : List D) : c_curve_Check.p f ds = callOf (cl_curve_Check ) f ds := Eq.trans rfl rfl
@[simp] theorem c_curve_Check_e (f : FuncId) (hs : List (Nat × O)) (ds : List D) : c_curve_Check.e f hs ds = callOfE ce_curve_Check f hs ds := Eq.trans rfl rfl
@[simp] theorem c_curve_Check_g (g : Nat) : c_curve_Check.g g = gl g := Eq.trans rfl rfl
noncomputable def L_curve_Check (i n : Nat) (s : St) : Option (E × St) := atN Tryd.prog c_curve_Check an_curve_Check 42 (bodyOf Tryd.f76) i n s
noncomputable def H_curve_Check (n i : Nat) (s : St) : Option (E × St) := atH Tryd.prog c_curve_Check an_curve_Check 42 (bodyOf Tryd.f76) n i s
@[simp] theorem H_curve_Check_eq (n i : Nat) (s : St) : H_curve_Check n i s = L_curve_Check i n (headOf (an_curve_Check.loops.lookup i) s) := rfl
noncomputable def R_curve_Check (i : Nat) (s : St) : Option (E × St) := stepL Tryd.prog c_curve_Check an_curve_Check 42 (bodyOf Tryd.f76) i s
theorem lok_curve_Check : okLoops (bodyOf Tryd.f76) = true := by kernel_rfl
theorem L_curve_Check_zero (i : Nat) (s : St) : L_curve_Check i 0 s = none := rfl
theorem L_curve_Check_succ (i n : Nat) (s : St) : L_curve_Check i (n + 1) s = andThen (R_curve_Check i s) (H_curve_Check n i) := atN_succ lok_curve_Check i n s
theorem R_curve_Check_eq (i : Nat) (s : St) : R_curve_Check i s = runS Tryd.prog c_curve_Check (H_curve_Check bigL) an_curve_Check 42 (loopAt (bodyOf Tryd.f76) i) s := rfl
noncomputable def F_curve_Check (ds : List D) : Option D := runF Tryd.prog c_curve_Check an_curve_Check 42 (bodyOf Tryd.f76) [.tmp 2] ds
theorem F_curve_Check_eq (ds : List D) : F_curve_Check ds = runG Tryd.prog c_curve_Check (H_curve_Check bigL) an_curve_Check 42 (bodyOf Tryd.f76) [.tmp 2] ds := runG_eq lok_curve_Check _ ds
theorem C_curve_Check (ds : List D) (r : D) (h : F_curve_Check ds = some r) : Contract Tryd.prog gl 76 ds r := contract_of mix Tryd.func76 rfl (by kernel_rfl) (by kernel_rfl) (by decide) (call := c_curve_Check) ⟨callOf_ok cl_curve_Check ⟨C_curve_inRange, trivial⟩, callOfE_ok ce_curve_Check trivial⟩ h
-- sawmill/curve.floor: loops []; state: params 0..1, then [4, 5]
attribute [simp] Tryd.f77
noncomputable def an_curve_floor : Ann := ⟨[0, 1, 4, 5], [12], [], [], [], some [4], [], [], [], []⟩
@[simp] theorem an_curve_floor_draws : an_curve_floor.draws = [] := rfl
@[simp] theorem an_curve_floor_exits : an_curve_floor.exits = [] := rfl
@[simp] theorem an_curve_floor_rets : an_curve_floor.rets = some [4] := rfl
@[simp] theorem an_curve_floor_keep : an_curve_floor.keep = [0, 1, 4, 5] := rfl
@[simp] theorem an_curve_floor_cond : an_curve_floor.cond = [12] := rfl
@[simp] theorem an_curve_floor_rows : an_curve_floor.rows = [] := rfl
@[simp] theorem an_curve_floor_loops : an_curve_floor.loops = [] := rfl
@[simp] theorem an_curve_floor_ecalls : an_curve_floor.ecalls = [] := rfl
@[simp] theorem an_curve_floor_crows : an_curve_floor.crows = [] := rfl
@[simp] theorem an_curve_floor_tails : an_curve_floor.tails = [] := rfl
@[simp] noncomputable def cl_curve_floor : List (Nat × (List D → Option D)) := []
@[simp] noncomputable def ce_curve_floor : List (Nat × (List (Nat × O) → List D → Option (D × List (Nat × O)))) := []
noncomputable def c_curve_floor : CT := ⟨callOf (cl_curve_floor ), callOfE ce_curve_floor, gl⟩
@[simp] theorem c_curve_floor_p (f : FuncId) (ds : List D) : c_curve_floor.p f ds = callOf (cl_curve_floor ) f ds := Eq.trans rfl rfl
@[simp] theorem c_curve_floor_e (f : FuncId) (hs : List (Nat × O)) (ds : List D) : c_curve_floor.e f hs ds = callOfE ce_curve_floor f hs ds := Eq.trans rfl rfl
@[simp] theorem c_curve_floor_g (g : Nat) : c_curve_floor.g g = gl g := Eq.trans rfl rfl
noncomputable def L_curve_floor (i n : Nat) (s : St) : Option (E × St) := atN Tryd.prog c_curve_floor an_curve_floor 16 (bodyOf Tryd.f77) i n s
noncomputable def H_curve_floor (n i : Nat) (s : St) : Option (E × St) := atH Tryd.prog c_curve_floor an_curve_floor 16 (bodyOf Tryd.f77) n i s
@[simp] theorem H_curve_floor_eq (n i : Nat) (s : St) : H_curve_floor n i s = L_curve_floor i n (headOf (an_curve_floor.loops.lookup i) s) := rfl
noncomputable def R_curve_floor (i : Nat) (s : St) : Option (E × St) := stepL Tryd.prog c_curve_floor an_curve_floor 16 (bodyOf Tryd.f77) i s
theorem lok_curve_floor : okLoops (bodyOf Tryd.f77) = true := by kernel_rfl
noncomputable def F_curve_floor (ds : List D) : Option D := runF Tryd.prog c_curve_floor an_curve_floor 16 (bodyOf Tryd.f77) [.tmp 4] ds
theorem F_curve_floor_eq (ds : List D) : F_curve_floor ds = runG Tryd.prog c_curve_floor (H_curve_floor bigL) an_curve_floor 16 (bodyOf Tryd.f77) [.tmp 4] ds := runG_eq lok_curve_floor _ ds
theorem C_curve_floor (ds : List D) (r : D) (h : F_curve_floor ds = some r) : Contract Tryd.prog gl 77 ds r := contract_of mix Tryd.func77 rfl (by kernel_rfl) (by kernel_rfl) (by decide) (call := c_curve_floor) ⟨callOf_ok cl_curve_floor trivial, callOfE_ok ce_curve_floor trivial⟩ h
-- sawmill/curve.At: loops [6]; state: params 0..1, then [4, 5, 6, 7]
attribute [simp] Tryd.f71
noncomputable def an_curve_At : Ann := ⟨[0, 1, 4, 5, 6, 7], [10, 16, 24, 33], [], [(6, [0, 1, 5])], [(0, [0]), (1, [0, 1, 5])], some [4], [(9, 12), (10, 18)], [], [], []⟩
@[simp] theorem an_curve_At_draws : an_curve_At.draws = [(9, 12), (10, 18)] := rfl
@[simp] theorem an_curve_At_exits : an_curve_At.exits = [(0, [0]), (1, [0, 1, 5])] := rfl
@[simp] theorem an_curve_At_rets : an_curve_At.rets = some [4] := rfl
@[simp] theorem an_curve_At_keep : an_curve_At.keep = [0, 1, 4, 5, 6, 7] := rfl
@[simp] theorem an_curve_At_cond : an_curve_At.cond = [10, 16, 24, 33] := rfl
@[simp] theorem an_curve_At_rows : an_curve_At.rows = [] := rfl
@[simp] theorem an_curve_At_loops : an_curve_At.loops = [(6, [0, 1, 5])] := rfl
@[simp] theorem an_curve_At_ecalls : an_curve_At.ecalls = [] := rfl
@[simp] theorem an_curve_At_crows : an_curve_At.crows = [] := rfl
@[simp] theorem an_curve_At_tails : an_curve_At.tails = [] := rfl
@[simp] noncomputable def cl_curve_At : List (Nat × (List D → Option D)) := [(76, F_curve_Check), (77, F_curve_floor)]
@[simp] noncomputable def ce_curve_At : List (Nat × (List (Nat × O) → List D → Option (D × List (Nat × O)))) := []
noncomputable def c_curve_At : CT := ⟨callOf (cl_curve_At ), callOfE ce_curve_At, gl⟩
@[simp] theorem c_curve_At_p (f : FuncId) (ds : List D) : c_curve_At.p f ds = callOf (cl_curve_At ) f ds := Eq.trans rfl rfl
@[simp] theorem c_curve_At_e (f : FuncId) (hs : List (Nat × O)) (ds : List D) : c_curve_At.e f hs ds = callOfE ce_curve_At f hs ds := Eq.trans rfl rfl
@[simp] theorem c_curve_At_g (g : Nat) : c_curve_At.g g = gl g := Eq.trans rfl rfl
noncomputable def L_curve_At (i n : Nat) (s : St) : Option (E × St) := atN Tryd.prog c_curve_At an_curve_At 69 (bodyOf Tryd.f71) i n s
noncomputable def H_curve_At (n i : Nat) (s : St) : Option (E × St) := atH Tryd.prog c_curve_At an_curve_At 69 (bodyOf Tryd.f71) n i s
@[simp] theorem H_curve_At_eq (n i : Nat) (s : St) : H_curve_At n i s = L_curve_At i n (headOf (an_curve_At.loops.lookup i) s) := rfl
noncomputable def R_curve_At (i : Nat) (s : St) : Option (E × St) := stepL Tryd.prog c_curve_At an_curve_At 69 (bodyOf Tryd.f71) i s
theorem lok_curve_At : okLoops (bodyOf Tryd.f71) = true := by kernel_rfl
theorem L_curve_At_zero (i : Nat) (s : St) : L_curve_At i 0 s = none := rfl
theorem L_curve_At_succ (i n : Nat) (s : St) : L_curve_At i (n + 1) s = andThen (R_curve_At i s) (H_curve_At n i) := atN_succ lok_curve_At i n s
theorem R_curve_At_eq (i : Nat) (s : St) : R_curve_At i s = runS Tryd.prog c_curve_At (H_curve_At bigL) an_curve_At 69 (loopAt (bodyOf Tryd.f71) i) s := rfl
noncomputable def F_curve_At (ds : List D) : Option D := runF Tryd.prog c_curve_At an_curve_At 69 (bodyOf Tryd.f71) [.tmp 4] ds
theorem F_curve_At_eq (ds : List D) : F_curve_At ds = runG Tryd.prog c_curve_At (H_curve_At bigL) an_curve_At 69 (bodyOf Tryd.f71) [.tmp 4] ds := runG_eq lok_curve_At _ ds
theorem C_curve_At (ds : List D) (r : D) (h : F_curve_At ds = some r) : Contract Tryd.prog gl 71 ds r := contract_of mix Tryd.func71 rfl (by kernel_rfl) (by kernel_rfl) (by decide) (call := c_curve_At) ⟨callOf_ok cl_curve_At ⟨C_curve_Check, C_curve_floor, trivial⟩, callOfE_ok ce_curve_At trivial⟩ h
-- sawmill/curve.Value: loops [5]; state: params 0..2, then [3, 6, 7, 8, 9, 14, 15, 16]
attribute [simp] Tryd.f67
noncomputable def an_curve_Value : Ann := ⟨[3, 6, 7, 8, 9, 14, 15, 16], [12, 17], [], [(5, [1, 2, 3, 7, 14, 15, 16])], [(0, [1, 3, 7]), (1, [1, 2, 3, 7, 14, 15, 16])], some [6], [(9, 5)], [], [], []⟩
@[simp] theorem an_curve_Value_draws : an_curve_Value.draws = [(9, 5)] := rfl
@[simp] theorem an_curve_Value_exits : an_curve_Value.exits = [(0, [1, 3, 7]), (1, [1, 2, 3, 7, 14, 15, 16])] := rfl
@[simp] theorem an_curve_Value_rets : an_curve_Value.rets = some [6] := rfl
@[simp] theorem an_curve_Value_keep : an_curve_Value.keep = [3, 6, 7, 8, 9, 14, 15, 16] := rfl
@[simp] theorem an_curve_Value_cond : an_curve_Value.cond = [12, 17] := rfl
@[simp] theorem an_curve_Value_rows : an_curve_Value.rows = [] := rfl
@[simp] theorem an_curve_Value_loops : an_curve_Value.loops = [(5, [1, 2, 3, 7, 14, 15, 16])] := rfl
@[simp] theorem an_curve_Value_ecalls : an_curve_Value.ecalls = [] := rfl
@[simp] theorem an_curve_Value_crows : an_curve_Value.crows = [] := rfl
@[simp] theorem an_curve_Value_tails : an_curve_Value.tails = [] := rfl
@[simp] noncomputable def cl_curve_Value : List (Nat × (List D → Option D)) := [(70, F_curve_CheckGrid), (71, F_curve_At), (72, F_curve_points)]
@[simp] noncomputable def ce_curve_Value : List (Nat × (List (Nat × O) → List D → Option (D × List (Nat × O)))) := []
noncomputable def c_curve_Value : CT := ⟨callOf (cl_curve_Value ), callOfE ce_curve_Value, gl⟩
@[simp] theorem c_curve_Value_p (f : FuncId) (ds : List D) : c_curve_Value.p f ds = callOf (cl_curve_Value ) f ds := Eq.trans rfl rfl
@[simp] theorem c_curve_Value_e (f : FuncId) (hs : List (Nat × O)) (ds : List D) : c_curve_Value.e f hs ds = callOfE ce_curve_Value f hs ds := Eq.trans rfl rfl
@[simp] theorem c_curve_Value_g (g : Nat) : c_curve_Value.g g = gl g := Eq.trans rfl rfl
noncomputable def L_curve_Value (i n : Nat) (s : St) : Option (E × St) := atN Tryd.prog c_curve_Value an_curve_Value 36 (bodyOf Tryd.f67) i n s
noncomputable def H_curve_Value (n i : Nat) (s : St) : Option (E × St) := atH Tryd.prog c_curve_Value an_curve_Value 36 (bodyOf Tryd.f67) n i s
@[simp] theorem H_curve_Value_eq (n i : Nat) (s : St) : H_curve_Value n i s = L_curve_Value i n (headOf (an_curve_Value.loops.lookup i) s) := rfl
noncomputable def R_curve_Value (i : Nat) (s : St) : Option (E × St) := stepL Tryd.prog c_curve_Value an_curve_Value 36 (bodyOf Tryd.f67) i s
theorem lok_curve_Value : okLoops (bodyOf Tryd.f67) = true := by kernel_rfl
theorem L_curve_Value_zero (i : Nat) (s : St) : L_curve_Value i 0 s = none := rfl
theorem L_curve_Value_succ (i n : Nat) (s : St) : L_curve_Value i (n + 1) s = andThen (R_curve_Value i s) (H_curve_Value n i) := atN_succ lok_curve_Value i n s
theorem R_curve_Value_eq (i : Nat) (s : St) : R_curve_Value i s = runS Tryd.prog c_curve_Value (H_curve_Value bigL) an_curve_Value 36 (loopAt (bodyOf Tryd.f67) i) s := rfl
noncomputable def F_curve_Value (ds : List D) : Option D := runF Tryd.prog c_curve_Value an_curve_Value 36 (bodyOf Tryd.f67) [.tmp 6] ds
theorem F_curve_Value_eq (ds : List D) : F_curve_Value ds = runG Tryd.prog c_curve_Value (H_curve_Value bigL) an_curve_Value 36 (bodyOf Tryd.f67) [.tmp 6] ds := runG_eq lok_curve_Value _ ds
theorem C_curve_Value (ds : List D) (r : D) (h : F_curve_Value ds = some r) : Contract Tryd.prog gl 67 ds r := contract_of mix Tryd.func67 rfl (by kernel_rfl) (by kernel_rfl) (by decide) (call := c_curve_Value) ⟨callOf_ok cl_curve_Value ⟨C_curve_CheckGrid, C_curve_At, C_curve_points, trivial⟩, callOfE_ok ce_curve_Value trivial⟩ h
-- sawmill/air.Emc: loops []; state: params 0..0, then [1, 2]
attribute [simp] Tryd.f59
noncomputable def an_air_Emc : Ann := ⟨[1, 2], [], [], [], [], some [2], [(1, 5)], [], [], []⟩
@[simp] theorem an_air_Emc_draws : an_air_Emc.draws = [(1, 5)] := rfl
@[simp] theorem an_air_Emc_exits : an_air_Emc.exits = [] := rfl
@[simp] theorem an_air_Emc_rets : an_air_Emc.rets = some [2] := rfl
@[simp] theorem an_air_Emc_keep : an_air_Emc.keep = [1, 2] := rfl
@[simp] theorem an_air_Emc_cond : an_air_Emc.cond = [] := rfl
@[simp] theorem an_air_Emc_rows : an_air_Emc.rows = [] := rfl
@[simp] theorem an_air_Emc_loops : an_air_Emc.loops = [] := rfl
@[simp] theorem an_air_Emc_ecalls : an_air_Emc.ecalls = [] := rfl
@[simp] theorem an_air_Emc_crows : an_air_Emc.crows = [] := rfl
@[simp] theorem an_air_Emc_tails : an_air_Emc.tails = [] := rfl
@[simp] noncomputable def cl_air_Emc : List (Nat × (List D → Option D)) := [(67, F_curve_Value), (68, F_air_Table)]
@[simp] noncomputable def ce_air_Emc : List (Nat × (List (Nat × O) → List D → Option (D × List (Nat × O)))) := []
noncomputable def c_air_Emc : CT := ⟨callOf (cl_air_Emc ), callOfE ce_air_Emc, gl⟩
@[simp] theorem c_air_Emc_p (f : FuncId) (ds : List D) : c_air_Emc.p f ds = callOf (cl_air_Emc ) f ds := Eq.trans rfl rfl
@[simp] theorem c_air_Emc_e (f : FuncId) (hs : List (Nat × O)) (ds : List D) : c_air_Emc.e f hs ds = callOfE ce_air_Emc f hs ds := Eq.trans rfl rfl
@[simp] theorem c_air_Emc_g (g : Nat) : c_air_Emc.g g = gl g := Eq.trans rfl rfl
noncomputable def L_air_Emc (i n : Nat) (s : St) : Option (E × St) := atN Tryd.prog c_air_Emc an_air_Emc 9 (bodyOf Tryd.f59) i n s
noncomputable def H_air_Emc (n i : Nat) (s : St) : Option (E × St) := atH Tryd.prog c_air_Emc an_air_Emc 9 (bodyOf Tryd.f59) n i s
@[simp] theorem H_air_Emc_eq (n i : Nat) (s : St) : H_air_Emc n i s = L_air_Emc i n (headOf (an_air_Emc.loops.lookup i) s) := rfl
noncomputable def R_air_Emc (i : Nat) (s : St) : Option (E × St) := stepL Tryd.prog c_air_Emc an_air_Emc 9 (bodyOf Tryd.f59) i s
theorem lok_air_Emc : okLoops (bodyOf Tryd.f59) = true := by kernel_rfl
noncomputable def F_air_Emc (ds : List D) : Option D := runF Tryd.prog c_air_Emc an_air_Emc 9 (bodyOf Tryd.f59) [.tmp 2] ds
theorem F_air_Emc_eq (ds : List D) : F_air_Emc ds = runG Tryd.prog c_air_Emc (H_air_Emc bigL) an_air_Emc 9 (bodyOf Tryd.f59) [.tmp 2] ds := runG_eq lok_air_Emc _ ds
theorem C_air_Emc (ds : List D) (r : D) (h : F_air_Emc ds = some r) : Contract Tryd.prog gl 59 ds r := contract_of mix Tryd.func59 rfl (by kernel_rfl) (by kernel_rfl) (by decide) (call := c_air_Emc) ⟨callOf_ok cl_air_Emc ⟨C_curve_Value, C_air_Table, trivial⟩, callOfE_ok ce_air_Emc trivial⟩ h
-- math/bits.Mul64: loops []; state: params 0..1, then [4, 5, 6, 7, 8, 9, 10, 11, 12, 13]
attribute [simp] Tryd.f65
noncomputable def an_math_bits_Mul64 : Ann := ⟨[0, 1, 4, 5, 6, 7, 8, 9, 10, 11, 12, 13], [], [], [], [], some [4, 5], [], [], [], []⟩
@[simp] theorem an_math_bits_Mul64_draws : an_math_bits_Mul64.draws = [] := rfl
@[simp] theorem an_math_bits_Mul64_exits : an_math_bits_Mul64.exits = [] := rfl
@[simp] theorem an_math_bits_Mul64_rets : an_math_bits_Mul64.rets = some [4, 5] := rfl
@[simp] theorem an_math_bits_Mul64_keep : an_math_bits_Mul64.keep = [0, 1, 4, 5, 6, 7, 8, 9, 10, 11, 12, 13] := rfl
@[simp] theorem an_math_bits_Mul64_cond : an_math_bits_Mul64.cond = [] := rfl
@[simp] theorem an_math_bits_Mul64_rows : an_math_bits_Mul64.rows = [] := rfl
@[simp] theorem an_math_bits_Mul64_loops : an_math_bits_Mul64.loops = [] := rfl
@[simp] theorem an_math_bits_Mul64_ecalls : an_math_bits_Mul64.ecalls = [] := rfl
@[simp] theorem an_math_bits_Mul64_crows : an_math_bits_Mul64.crows = [] := rfl
@[simp] theorem an_math_bits_Mul64_tails : an_math_bits_Mul64.tails = [] := rfl
@[simp] noncomputable def cl_math_bits_Mul64 : List (Nat × (List D → Option D)) := []
@[simp] noncomputable def ce_math_bits_Mul64 : List (Nat × (List (Nat × O) → List D → Option (D × List (Nat × O)))) := []
noncomputable def c_math_bits_Mul64 : CT := ⟨callOf (cl_math_bits_Mul64 ), callOfE ce_math_bits_Mul64, gl⟩
@[simp] theorem c_math_bits_Mul64_p (f : FuncId) (ds : List D) : c_math_bits_Mul64.p f ds = callOf (cl_math_bits_Mul64 ) f ds := Eq.trans rfl rfl
@[simp] theorem c_math_bits_Mul64_e (f : FuncId) (hs : List (Nat × O)) (ds : List D) : c_math_bits_Mul64.e f hs ds = callOfE ce_math_bits_Mul64 f hs ds := Eq.trans rfl rfl
@[simp] theorem c_math_bits_Mul64_g (g : Nat) : c_math_bits_Mul64.g g = gl g := Eq.trans rfl rfl
noncomputable def L_math_bits_Mul64 (i n : Nat) (s : St) : Option (E × St) := atN Tryd.prog c_math_bits_Mul64 an_math_bits_Mul64 51 (bodyOf Tryd.f65) i n s
noncomputable def H_math_bits_Mul64 (n i : Nat) (s : St) : Option (E × St) := atH Tryd.prog c_math_bits_Mul64 an_math_bits_Mul64 51 (bodyOf Tryd.f65) n i s
@[simp] theorem H_math_bits_Mul64_eq (n i : Nat) (s : St) : H_math_bits_Mul64 n i s = L_math_bits_Mul64 i n (headOf (an_math_bits_Mul64.loops.lookup i) s) := rfl
noncomputable def R_math_bits_Mul64 (i : Nat) (s : St) : Option (E × St) := stepL Tryd.prog c_math_bits_Mul64 an_math_bits_Mul64 51 (bodyOf Tryd.f65) i s
theorem lok_math_bits_Mul64 : okLoops (bodyOf Tryd.f65) = true := by kernel_rfl
noncomputable def F_math_bits_Mul64 (ds : List D) : Option D := runF Tryd.prog c_math_bits_Mul64 an_math_bits_Mul64 51 (bodyOf Tryd.f65) [.tmp 4, .tmp 5] ds
theorem F_math_bits_Mul64_eq (ds : List D) : F_math_bits_Mul64 ds = runG Tryd.prog c_math_bits_Mul64 (H_math_bits_Mul64 bigL) an_math_bits_Mul64 51 (bodyOf Tryd.f65) [.tmp 4, .tmp 5] ds := runG_eq lok_math_bits_Mul64 _ ds
theorem C_math_bits_Mul64 (ds : List D) (r : D) (h : F_math_bits_Mul64 ds = some r) : Contract Tryd.prog gl 65 ds r := contract_of mix Tryd.func65 rfl (by kernel_rfl) (by kernel_rfl) (by decide) (call := c_math_bits_Mul64) ⟨callOf_ok cl_math_bits_Mul64 trivial, callOfE_ok ce_math_bits_Mul64 trivial⟩ h
-- math/bits.Len64: loops []; state: params 0..0, then [2]
attribute [simp] Tryd.f73
noncomputable def an_math_bits_Len64 : Ann := ⟨[0, 2], [4, 8, 14], [], [], [], some [2], [], [], [], []⟩
@[simp] theorem an_math_bits_Len64_draws : an_math_bits_Len64.draws = [] := rfl
@[simp] theorem an_math_bits_Len64_exits : an_math_bits_Len64.exits = [] := rfl
@[simp] theorem an_math_bits_Len64_rets : an_math_bits_Len64.rets = some [2] := rfl
@[simp] theorem an_math_bits_Len64_keep : an_math_bits_Len64.keep = [0, 2] := rfl
@[simp] theorem an_math_bits_Len64_cond : an_math_bits_Len64.cond = [4, 8, 14] := rfl
@[simp] theorem an_math_bits_Len64_rows : an_math_bits_Len64.rows = [] := rfl
@[simp] theorem an_math_bits_Len64_loops : an_math_bits_Len64.loops = [] := rfl
@[simp] theorem an_math_bits_Len64_ecalls : an_math_bits_Len64.ecalls = [] := rfl
@[simp] theorem an_math_bits_Len64_crows : an_math_bits_Len64.crows = [] := rfl
@[simp] theorem an_math_bits_Len64_tails : an_math_bits_Len64.tails = [] := rfl
@[simp] noncomputable def cl_math_bits_Len64 : List (Nat × (List D → Option D)) := []
@[simp] noncomputable def ce_math_bits_Len64 : List (Nat × (List (Nat × O) → List D → Option (D × List (Nat × O)))) := []
noncomputable def c_math_bits_Len64 : CT := ⟨callOf (cl_math_bits_Len64 ), callOfE ce_math_bits_Len64, gl⟩
@[simp] theorem c_math_bits_Len64_p (f : FuncId) (ds : List D) : c_math_bits_Len64.p f ds = callOf (cl_math_bits_Len64 ) f ds := Eq.trans rfl rfl
@[simp] theorem c_math_bits_Len64_e (f : FuncId) (hs : List (Nat × O)) (ds : List D) : c_math_bits_Len64.e f hs ds = callOfE ce_math_bits_Len64 f hs ds := Eq.trans rfl rfl
@[simp] theorem c_math_bits_Len64_g (g : Nat) : c_math_bits_Len64.g g = gl g := Eq.trans rfl rfl
noncomputable def L_math_bits_Len64 (i n : Nat) (s : St) : Option (E × St) := atN Tryd.prog c_math_bits_Len64 an_math_bits_Len64 25 (bodyOf Tryd.f73) i n s
noncomputable def H_math_bits_Len64 (n i : Nat) (s : St) : Option (E × St) := atH Tryd.prog c_math_bits_Len64 an_math_bits_Len64 25 (bodyOf Tryd.f73) n i s
@[simp] theorem H_math_bits_Len64_eq (n i : Nat) (s : St) : H_math_bits_Len64 n i s = L_math_bits_Len64 i n (headOf (an_math_bits_Len64.loops.lookup i) s) := rfl
noncomputable def R_math_bits_Len64 (i : Nat) (s : St) : Option (E × St) := stepL Tryd.prog c_math_bits_Len64 an_math_bits_Len64 25 (bodyOf Tryd.f73) i s
theorem lok_math_bits_Len64 : okLoops (bodyOf Tryd.f73) = true := by kernel_rfl
noncomputable def F_math_bits_Len64 (ds : List D) : Option D := runF Tryd.prog c_math_bits_Len64 an_math_bits_Len64 25 (bodyOf Tryd.f73) [.tmp 2] ds
theorem F_math_bits_Len64_eq (ds : List D) : F_math_bits_Len64 ds = runG Tryd.prog c_math_bits_Len64 (H_math_bits_Len64 bigL) an_math_bits_Len64 25 (bodyOf Tryd.f73) [.tmp 2] ds := runG_eq lok_math_bits_Len64 _ ds
theorem C_math_bits_Len64 (ds : List D) (r : D) (h : F_math_bits_Len64 ds = some r) : Contract Tryd.prog gl 73 ds r := contract_of mix Tryd.func73 rfl (by kernel_rfl) (by kernel_rfl) (by decide) (call := c_math_bits_Len64) ⟨callOf_ok cl_math_bits_Len64 trivial, callOfE_ok ce_math_bits_Len64 trivial⟩ h
-- math/bits.LeadingZeros64: loops []; state: params 0..0, then [2]
attribute [simp] Tryd.f69
noncomputable def an_math_bits_LeadingZeros64 : Ann := ⟨[2], [], [], [], [], some [2], [], [], [], []⟩
@[simp] theorem an_math_bits_LeadingZeros64_draws : an_math_bits_LeadingZeros64.draws = [] := rfl
@[simp] theorem an_math_bits_LeadingZeros64_exits : an_math_bits_LeadingZeros64.exits = [] := rfl
@[simp] theorem an_math_bits_LeadingZeros64_rets : an_math_bits_LeadingZeros64.rets = some [2] := rfl
@[simp] theorem an_math_bits_LeadingZeros64_keep : an_math_bits_LeadingZeros64.keep = [2] := rfl
@[simp] theorem an_math_bits_LeadingZeros64_cond : an_math_bits_LeadingZeros64.cond = [] := rfl
@[simp] theorem an_math_bits_LeadingZeros64_rows : an_math_bits_LeadingZeros64.rows = [] := rfl
@[simp] theorem an_math_bits_LeadingZeros64_loops : an_math_bits_LeadingZeros64.loops = [] := rfl
@[simp] theorem an_math_bits_LeadingZeros64_ecalls : an_math_bits_LeadingZeros64.ecalls = [] := rfl
@[simp] theorem an_math_bits_LeadingZeros64_crows : an_math_bits_LeadingZeros64.crows = [] := rfl
@[simp] theorem an_math_bits_LeadingZeros64_tails : an_math_bits_LeadingZeros64.tails = [] := rfl
@[simp] noncomputable def cl_math_bits_LeadingZeros64 : List (Nat × (List D → Option D)) := [(73, F_math_bits_Len64)]
@[simp] noncomputable def ce_math_bits_LeadingZeros64 : List (Nat × (List (Nat × O) → List D → Option (D × List (Nat × O)))) := []
noncomputable def c_math_bits_LeadingZeros64 : CT := ⟨callOf (cl_math_bits_LeadingZeros64 ), callOfE ce_math_bits_LeadingZeros64, gl⟩
@[simp] theorem c_math_bits_LeadingZeros64_p (f : FuncId) (ds : List D) : c_math_bits_LeadingZeros64.p f ds = callOf (cl_math_bits_LeadingZeros64 ) f ds := Eq.trans rfl rfl
@[simp] theorem c_math_bits_LeadingZeros64_e (f : FuncId) (hs : List (Nat × O)) (ds : List D) : c_math_bits_LeadingZeros64.e f hs ds = callOfE ce_math_bits_LeadingZeros64 f hs ds := Eq.trans rfl rfl
@[simp] theorem c_math_bits_LeadingZeros64_g (g : Nat) : c_math_bits_LeadingZeros64.g g = gl g := Eq.trans rfl rfl
noncomputable def L_math_bits_LeadingZeros64 (i n : Nat) (s : St) : Option (E × St) := atN Tryd.prog c_math_bits_LeadingZeros64 an_math_bits_LeadingZeros64 6 (bodyOf Tryd.f69) i n s
noncomputable def H_math_bits_LeadingZeros64 (n i : Nat) (s : St) : Option (E × St) := atH Tryd.prog c_math_bits_LeadingZeros64 an_math_bits_LeadingZeros64 6 (bodyOf Tryd.f69) n i s
@[simp] theorem H_math_bits_LeadingZeros64_eq (n i : Nat) (s : St) : H_math_bits_LeadingZeros64 n i s = L_math_bits_LeadingZeros64 i n (headOf (an_math_bits_LeadingZeros64.loops.lookup i) s) := rfl
noncomputable def R_math_bits_LeadingZeros64 (i : Nat) (s : St) : Option (E × St) := stepL Tryd.prog c_math_bits_LeadingZeros64 an_math_bits_LeadingZeros64 6 (bodyOf Tryd.f69) i s
theorem lok_math_bits_LeadingZeros64 : okLoops (bodyOf Tryd.f69) = true := by kernel_rfl
noncomputable def F_math_bits_LeadingZeros64 (ds : List D) : Option D := runF Tryd.prog c_math_bits_LeadingZeros64 an_math_bits_LeadingZeros64 6 (bodyOf Tryd.f69) [.tmp 2] ds
theorem F_math_bits_LeadingZeros64_eq (ds : List D) : F_math_bits_LeadingZeros64 ds = runG Tryd.prog c_math_bits_LeadingZeros64 (H_math_bits_LeadingZeros64 bigL) an_math_bits_LeadingZeros64 6 (bodyOf Tryd.f69) [.tmp 2] ds := runG_eq lok_math_bits_LeadingZeros64 _ ds
theorem C_math_bits_LeadingZeros64 (ds : List D) (r : D) (h : F_math_bits_LeadingZeros64 ds = some r) : Contract Tryd.prog gl 69 ds r := contract_of mix Tryd.func69 rfl (by kernel_rfl) (by kernel_rfl) (by decide) (call := c_math_bits_LeadingZeros64) ⟨callOf_ok cl_math_bits_LeadingZeros64 ⟨C_math_bits_Len64, trivial⟩, callOfE_ok ce_math_bits_LeadingZeros64 trivial⟩ h
-- math/bits.Div64: loops [17, 24]; state: params 0..2, then [6, 7, 8, 9, 10, 11, 12, 13, 14, 15, 16, 17, 18]
attribute [simp] Tryd.f66
noncomputable def an_math_bits_Div64 : Ann := ⟨[0, 1, 2, 6, 7, 8, 9, 10, 11, 12, 13, 14, 15, 16, 17, 18], [20, 24, 27, 78, 85, 113, 120], [], [(17, [2, 8, 9, 10, 11, 13, 14, 15, 16]), (24, [2, 8, 9, 10, 14, 15, 16, 17, 18])], [(0, [2, 8, 9, 10, 11, 13, 14, 15]), (1, [2, 8, 9, 10, 11, 13, 14, 15, 16]), (2, [2, 8, 14, 15, 17, 18]), (3, [2, 8, 9, 10, 14, 15, 16, 17, 18])], some [6, 7], [(6, 7)], [], [], []⟩
@[simp] theorem an_math_bits_Div64_draws : an_math_bits_Div64.draws = [(6, 7)] := rfl
@[simp] theorem an_math_bits_Div64_exits : an_math_bits_Div64.exits = [(0, [2, 8, 9, 10, 11, 13, 14, 15]), (1, [2, 8, 9, 10, 11, 13, 14, 15, 16]), (2, [2, 8, 14, 15, 17, 18]), (3, [2, 8, 9, 10, 14, 15, 16, 17, 18])] := rfl
@[simp] theorem an_math_bits_Div64_rets : an_math_bits_Div64.rets = some [6, 7] := rfl
@[simp] theorem an_math_bits_Div64_keep : an_math_bits_Div64.keep = [0, 1, 2, 6, 7, 8, 9, 10, 11, 12, 13, 14, 15, 16, 17, 18] := rfl
@[simp] theorem an_math_bits_Div64_cond : an_math_bits_Div64.cond = [20, 24, 27, 78, 85, 113, 120] := rfl
@[simp] theorem an_math_bits_Div64_rows : an_math_bits_Div64.rows = [] := rfl
@[simp] theorem an_math_bits_Div64_loops : an_math_bits_Div64.loops = [(17, [2, 8, 9, 10, 11, 13, 14, 15, 16]), (24, [2, 8, 9, 10, 14, 15, 16, 17, 18])] := rfl
@[simp] theorem an_math_bits_Div64_ecalls : an_math_bits_Div64.ecalls = [] := rfl
@[simp] theorem an_math_bits_Div64_crows : an_math_bits_Div64.crows = [] := rfl
@[simp] theorem an_math_bits_Div64_tails : an_math_bits_Div64.tails = [] := rfl
@[simp] noncomputable def cl_math_bits_Div64 : List (Nat × (List D → Option D)) := [(69, F_math_bits_LeadingZeros64)]
@[simp] noncomputable def ce_math_bits_Div64 : List (Nat × (List (Nat × O) → List D → Option (D × List (Nat × O)))) := []
noncomputable def c_math_bits_Div64 : CT := ⟨callOf (cl_math_bits_Div64 ), callOfE ce_math_bits_Div64, gl⟩
@[simp] theorem c_math_bits_Div64_p (f : FuncId) (ds : List D) : c_math_bits_Div64.p f ds = callOf (cl_math_bits_Div64 ) f ds := Eq.trans rfl rfl
@[simp] theorem c_math_bits_Div64_e (f : FuncId) (hs : List (Nat × O)) (ds : List D) : c_math_bits_Div64.e f hs ds = callOfE ce_math_bits_Div64 f hs ds := Eq.trans rfl rfl
@[simp] theorem c_math_bits_Div64_g (g : Nat) : c_math_bits_Div64.g g = gl g := Eq.trans rfl rfl
noncomputable def L_math_bits_Div64 (i n : Nat) (s : St) : Option (E × St) := atN Tryd.prog c_math_bits_Div64 an_math_bits_Div64 135 (bodyOf Tryd.f66) i n s
noncomputable def H_math_bits_Div64 (n i : Nat) (s : St) : Option (E × St) := atH Tryd.prog c_math_bits_Div64 an_math_bits_Div64 135 (bodyOf Tryd.f66) n i s
@[simp] theorem H_math_bits_Div64_eq (n i : Nat) (s : St) : H_math_bits_Div64 n i s = L_math_bits_Div64 i n (headOf (an_math_bits_Div64.loops.lookup i) s) := rfl
noncomputable def R_math_bits_Div64 (i : Nat) (s : St) : Option (E × St) := stepL Tryd.prog c_math_bits_Div64 an_math_bits_Div64 135 (bodyOf Tryd.f66) i s
theorem lok_math_bits_Div64 : okLoops (bodyOf Tryd.f66) = true := by kernel_rfl
theorem L_math_bits_Div64_zero (i : Nat) (s : St) : L_math_bits_Div64 i 0 s = none := rfl
theorem L_math_bits_Div64_succ (i n : Nat) (s : St) : L_math_bits_Div64 i (n + 1) s = andThen (R_math_bits_Div64 i s) (H_math_bits_Div64 n i) := atN_succ lok_math_bits_Div64 i n s
theorem R_math_bits_Div64_eq (i : Nat) (s : St) : R_math_bits_Div64 i s = runS Tryd.prog c_math_bits_Div64 (H_math_bits_Div64 bigL) an_math_bits_Div64 135 (loopAt (bodyOf Tryd.f66) i) s := rfl
noncomputable def F_math_bits_Div64 (ds : List D) : Option D := runF Tryd.prog c_math_bits_Div64 an_math_bits_Div64 135 (bodyOf Tryd.f66) [.tmp 6, .tmp 7] ds
theorem F_math_bits_Div64_eq (ds : List D) : F_math_bits_Div64 ds = runG Tryd.prog c_math_bits_Div64 (H_math_bits_Div64 bigL) an_math_bits_Div64 135 (bodyOf Tryd.f66) [.tmp 6, .tmp 7] ds := runG_eq lok_math_bits_Div64 _ ds
theorem C_math_bits_Div64 (ds : List D) (r : D) (h : F_math_bits_Div64 ds = some r) : Contract Tryd.prog gl 66 ds r := contract_of mix Tryd.func66 rfl (by kernel_rfl) (by kernel_rfl) (by decide) (call := c_math_bits_Div64) ⟨callOf_ok cl_math_bits_Div64 ⟨C_math_bits_LeadingZeros64, trivial⟩, callOfE_ok ce_math_bits_Div64 trivial⟩ h
-- sawmill/units.Toward: loops []; state: params 0..2, then [6, 7, 8, 9, 10]
attribute [simp] Tryd.f58
noncomputable def an_units_Toward : Ann := ⟨[0, 1, 2, 6, 7, 8, 9, 10], [20, 29, 52], [], [], [], some [6], [], [], [], []⟩
@[simp] theorem an_units_Toward_draws : an_units_Toward.draws = [] := rfl
@[simp] theorem an_units_Toward_exits : an_units_Toward.exits = [] := rfl
@[simp] theorem an_units_Toward_rets : an_units_Toward.rets = some [6] := rfl
@[simp] theorem an_units_Toward_keep : an_units_Toward.keep = [0, 1, 2, 6, 7, 8, 9, 10] := rfl
@[simp] theorem an_units_Toward_cond : an_units_Toward.cond = [20, 29, 52] := rfl
@[simp] theorem an_units_Toward_rows : an_units_Toward.rows = [] := rfl
@[simp] theorem an_units_Toward_loops : an_units_Toward.loops = [] := rfl
@[simp] theorem an_units_Toward_ecalls : an_units_Toward.ecalls = [] := rfl
@[simp] theorem an_units_Toward_crows : an_units_Toward.crows = [] := rfl
@[simp] theorem an_units_Toward_tails : an_units_Toward.tails = [] := rfl
@[simp] noncomputable def cl_units_Toward : List (Nat × (List D → Option D)) := [(48, F_units_Clamp), (65, F_math_bits_Mul64), (66, F_math_bits_Div64)]
@[simp] noncomputable def ce_units_Toward : List (Nat × (List (Nat × O) → List D → Option (D × List (Nat × O)))) := []
noncomputable def c_units_Toward : CT := ⟨callOf (cl_units_Toward ), callOfE ce_units_Toward, gl⟩
@[simp] theorem c_units_Toward_p (f : FuncId) (ds : List D) : c_units_Toward.p f ds = callOf (cl_units_Toward ) f ds := Eq.trans rfl rfl
@[simp] theorem c_units_Toward_e (f : FuncId) (hs : List (Nat × O)) (ds : List D) : c_units_Toward.e f hs ds = callOfE ce_units_Toward f hs ds := Eq.trans rfl rfl
@[simp] theorem c_units_Toward_g (g : Nat) : c_units_Toward.g g = gl g := Eq.trans rfl rfl
noncomputable def L_units_Toward (i n : Nat) (s : St) : Option (E × St) := atN Tryd.prog c_units_Toward an_units_Toward 63 (bodyOf Tryd.f58) i n s
noncomputable def H_units_Toward (n i : Nat) (s : St) : Option (E × St) := atH Tryd.prog c_units_Toward an_units_Toward 63 (bodyOf Tryd.f58) n i s
@[simp] theorem H_units_Toward_eq (n i : Nat) (s : St) : H_units_Toward n i s = L_units_Toward i n (headOf (an_units_Toward.loops.lookup i) s) := rfl
noncomputable def R_units_Toward (i : Nat) (s : St) : Option (E × St) := stepL Tryd.prog c_units_Toward an_units_Toward 63 (bodyOf Tryd.f58) i s
theorem lok_units_Toward : okLoops (bodyOf Tryd.f58) = true := by kernel_rfl
noncomputable def F_units_Toward (ds : List D) : Option D := runF Tryd.prog c_units_Toward an_units_Toward 63 (bodyOf Tryd.f58) [.tmp 6] ds
theorem F_units_Toward_eq (ds : List D) : F_units_Toward ds = runG Tryd.prog c_units_Toward (H_units_Toward bigL) an_units_Toward 63 (bodyOf Tryd.f58) [.tmp 6] ds := runG_eq lok_units_Toward _ ds
theorem C_units_Toward (ds : List D) (r : D) (h : F_units_Toward ds = some r) : Contract Tryd.prog gl 58 ds r := contract_of mix Tryd.func58 rfl (by kernel_rfl) (by kernel_rfl) (by decide) (call := c_units_Toward) ⟨callOf_ok cl_units_Toward ⟨C_units_Clamp, C_math_bits_Mul64, C_math_bits_Div64, trivial⟩, callOfE_ok ce_units_Toward trivial⟩ h
-- sawmill/moist.Tick: loops []; state: params 0..4, then [5, 6, 8, 10, 18]
attribute [simp] Tryd.f49
noncomputable def an_moist_Tick : Ann := ⟨[2, 5, 6, 8, 10, 18], [16, 19], [], [], [(0, [5, 6, 10]), (1, [2, 5, 6, 8, 10]), (2, [2, 5, 6, 8, 10])], some [10], [(5, 11), (6, 14)], [], [], []⟩
@[simp] theorem an_moist_Tick_draws : an_moist_Tick.draws = [(5, 11), (6, 14)] := rfl
@[simp] theorem an_moist_Tick_exits : an_moist_Tick.exits = [(0, [5, 6, 10]), (1, [2, 5, 6, 8, 10]), (2, [2, 5, 6, 8, 10])] := rfl
@[simp] theorem an_moist_Tick_rets : an_moist_Tick.rets = some [10] := rfl
@[simp] theorem an_moist_Tick_keep : an_moist_Tick.keep = [2, 5, 6, 8, 10, 18] := rfl
@[simp] theorem an_moist_Tick_cond : an_moist_Tick.cond = [16, 19] := rfl
@[simp] theorem an_moist_Tick_rows : an_moist_Tick.rows = [] := rfl
@[simp] theorem an_moist_Tick_loops : an_moist_Tick.loops = [] := rfl
@[simp] theorem an_moist_Tick_ecalls : an_moist_Tick.ecalls = [] := rfl
@[simp] theorem an_moist_Tick_crows : an_moist_Tick.crows = [] := rfl
@[simp] theorem an_moist_Tick_tails : an_moist_Tick.tails = [] := rfl
@[simp] noncomputable def cl_moist_Tick : List (Nat × (List D → Option D)) := [(48, F_units_Clamp), (57, F_moist_computable), (58, F_units_Toward), (59, F_air_Emc)]
@[simp] noncomputable def ce_moist_Tick : List (Nat × (List (Nat × O) → List D → Option (D × List (Nat × O)))) := []
noncomputable def c_moist_Tick : CT := ⟨callOf (cl_moist_Tick ), callOfE ce_moist_Tick, gl⟩
@[simp] theorem c_moist_Tick_p (f : FuncId) (ds : List D) : c_moist_Tick.p f ds = callOf (cl_moist_Tick ) f ds := Eq.trans rfl rfl
@[simp] theorem c_moist_Tick_e (f : FuncId) (hs : List (Nat × O)) (ds : List D) : c_moist_Tick.e f hs ds = callOfE ce_moist_Tick f hs ds := Eq.trans rfl rfl
@[simp] theorem c_moist_Tick_g (g : Nat) : c_moist_Tick.g g = gl g := Eq.trans rfl rfl
noncomputable def L_moist_Tick (i n : Nat) (s : St) : Option (E × St) := atN Tryd.prog c_moist_Tick an_moist_Tick 65 (bodyOf Tryd.f49) i n s
noncomputable def H_moist_Tick (n i : Nat) (s : St) : Option (E × St) := atH Tryd.prog c_moist_Tick an_moist_Tick 65 (bodyOf Tryd.f49) n i s
@[simp] theorem H_moist_Tick_eq (n i : Nat) (s : St) : H_moist_Tick n i s = L_moist_Tick i n (headOf (an_moist_Tick.loops.lookup i) s) := rfl
noncomputable def R_moist_Tick (i : Nat) (s : St) : Option (E × St) := stepL Tryd.prog c_moist_Tick an_moist_Tick 65 (bodyOf Tryd.f49) i s
theorem lok_moist_Tick : okLoops (bodyOf Tryd.f49) = true := by kernel_rfl
noncomputable def F_moist_Tick (ds : List D) : Option D := runF Tryd.prog c_moist_Tick an_moist_Tick 65 (bodyOf Tryd.f49) [.cell 10 51] ds
theorem F_moist_Tick_eq (ds : List D) : F_moist_Tick ds = runG Tryd.prog c_moist_Tick (H_moist_Tick bigL) an_moist_Tick 65 (bodyOf Tryd.f49) [.cell 10 51] ds := runG_eq lok_moist_Tick _ ds
theorem C_moist_Tick (ds : List D) (r : D) (h : F_moist_Tick ds = some r) : Contract Tryd.prog gl 49 ds r := contract_of mix Tryd.func49 rfl (by kernel_rfl) (by kernel_rfl) (by decide) (call := c_moist_Tick) ⟨callOf_ok cl_moist_Tick ⟨C_units_Clamp, C_moist_computable, C_units_Toward, C_air_Emc, trivial⟩, callOfE_ok ce_moist_Tick trivial⟩ h
-- (*sawmill/kiln.Kiln).dried: loops [3]; state: params 0..1, then [4, 5, 6, 7, 13, 14, 15]
attribute [simp] Tryd.f35
noncomputable def an_kiln_Kiln_dried : Ann := ⟨[0, 4, 5, 6, 7, 13, 14, 15], [16], [5], [(3, [0, 1, 5, 13, 14, 15])], [(0, [5]), (1, [0, 1, 5, 13, 14, 15])], some [4], [(5, 16)], [(38, false)], [], []⟩
@[simp] theorem an_kiln_Kiln_dried_draws : an_kiln_Kiln_dried.draws = [(5, 16)] := rfl
@[simp] theorem an_kiln_Kiln_dried_exits : an_kiln_Kiln_dried.exits = [(0, [5]), (1, [0, 1, 5, 13, 14, 15])] := rfl
@[simp] theorem an_kiln_Kiln_dried_rets : an_kiln_Kiln_dried.rets = some [4] := rfl
@[simp] theorem an_kiln_Kiln_dried_keep : an_kiln_Kiln_dried.keep = [0, 4, 5, 6, 7, 13, 14, 15] := rfl
@[simp] theorem an_kiln_Kiln_dried_cond : an_kiln_Kiln_dried.cond = [16] := rfl
@[simp] theorem an_kiln_Kiln_dried_rows : an_kiln_Kiln_dried.rows = [5] := rfl
@[simp] theorem an_kiln_Kiln_dried_loops : an_kiln_Kiln_dried.loops = [(3, [0, 1, 5, 13, 14, 15])] := rfl
@[simp] theorem an_kiln_Kiln_dried_ecalls : an_kiln_Kiln_dried.ecalls = [(38, false)] := rfl
@[simp] theorem an_kiln_Kiln_dried_crows : an_kiln_Kiln_dried.crows = [] := rfl
@[simp] theorem an_kiln_Kiln_dried_tails : an_kiln_Kiln_dried.tails = [] := rfl
@[simp] noncomputable def cl_kiln_Kiln_dried : List (Nat × (List D → Option D)) := [(49, F_moist_Tick)]
@[simp] noncomputable def ce_kiln_Kiln_dried : List (Nat × (List (Nat × O) → List D → Option (D × List (Nat × O)))) := [(38, E_slices_Clone_kiln_Item_kiln_Item_obj)]
noncomputable def c_kiln_Kiln_dried : CT := ⟨callOf (cl_kiln_Kiln_dried ), callOfE ce_kiln_Kiln_dried, gl⟩
@[simp] theorem c_kiln_Kiln_dried_p (f : FuncId) (ds : List D) : c_kiln_Kiln_dried.p f ds = callOf (cl_kiln_Kiln_dried ) f ds := Eq.trans rfl rfl
@[simp] theorem c_kiln_Kiln_dried_e (f : FuncId) (hs : List (Nat × O)) (ds : List D) : c_kiln_Kiln_dried.e f hs ds = callOfE ce_kiln_Kiln_dried f hs ds := Eq.trans rfl rfl
@[simp] theorem c_kiln_Kiln_dried_g (g : Nat) : c_kiln_Kiln_dried.g g = gl g := Eq.trans rfl rfl
noncomputable def L_kiln_Kiln_dried (i n : Nat) (s : St) : Option (E × St) := atN Tryd.prog c_kiln_Kiln_dried an_kiln_Kiln_dried 40 (bodyOf Tryd.f35) i n s
noncomputable def H_kiln_Kiln_dried (n i : Nat) (s : St) : Option (E × St) := atH Tryd.prog c_kiln_Kiln_dried an_kiln_Kiln_dried 40 (bodyOf Tryd.f35) n i s
@[simp] theorem H_kiln_Kiln_dried_eq (n i : Nat) (s : St) : H_kiln_Kiln_dried n i s = L_kiln_Kiln_dried i n (headOf (an_kiln_Kiln_dried.loops.lookup i) s) := rfl
noncomputable def R_kiln_Kiln_dried (i : Nat) (s : St) : Option (E × St) := stepL Tryd.prog c_kiln_Kiln_dried an_kiln_Kiln_dried 40 (bodyOf Tryd.f35) i s
theorem lok_kiln_Kiln_dried : okLoops (bodyOf Tryd.f35) = true := by kernel_rfl
theorem L_kiln_Kiln_dried_zero (i : Nat) (s : St) : L_kiln_Kiln_dried i 0 s = none := rfl
theorem L_kiln_Kiln_dried_succ (i n : Nat) (s : St) : L_kiln_Kiln_dried i (n + 1) s = andThen (R_kiln_Kiln_dried i s) (H_kiln_Kiln_dried n i) := atN_succ lok_kiln_Kiln_dried i n s
theorem R_kiln_Kiln_dried_eq (i : Nat) (s : St) : R_kiln_Kiln_dried i s = runS Tryd.prog c_kiln_Kiln_dried (H_kiln_Kiln_dried bigL) an_kiln_Kiln_dried 40 (loopAt (bodyOf Tryd.f35) i) s := rfl
noncomputable def F_kiln_Kiln_dried (ds : List D) : Option D := runF Tryd.prog c_kiln_Kiln_dried an_kiln_Kiln_dried 40 (bodyOf Tryd.f35) [.tmp 4] ds
theorem F_kiln_Kiln_dried_eq (ds : List D) : F_kiln_Kiln_dried ds = runG Tryd.prog c_kiln_Kiln_dried (H_kiln_Kiln_dried bigL) an_kiln_Kiln_dried 40 (bodyOf Tryd.f35) [.tmp 4] ds := runG_eq lok_kiln_Kiln_dried _ ds
theorem C_kiln_Kiln_dried (ds : List D) (r : D) (h : F_kiln_Kiln_dried ds = some r) : Contract Tryd.prog gl 35 ds r := contract_of mix Tryd.func35 rfl (by kernel_rfl) (by kernel_rfl) (by decide) (call := c_kiln_Kiln_dried) ⟨callOf_ok cl_kiln_Kiln_dried ⟨C_moist_Tick, trivial⟩, callOfE_ok ce_kiln_Kiln_dried ⟨CE_slices_Clone_kiln_Item_kiln_Item_obj, trivial⟩⟩ h
-- sawmill/moist.Gradient: loops []; state: params 0..0, then [1, 2]
attribute [simp] Tryd.f18
noncomputable def an_moist_Gradient : Ann := ⟨[1, 2], [5], [], [], [], some [2], [], [], [], []⟩
@[simp] theorem an_moist_Gradient_draws : an_moist_Gradient.draws = [] := rfl
@[simp] theorem an_moist_Gradient_exits : an_moist_Gradient.exits = [] := rfl
@[simp] theorem an_moist_Gradient_rets : an_moist_Gradient.rets = some [2] := rfl
@[simp] theorem an_moist_Gradient_keep : an_moist_Gradient.keep = [1, 2] := rfl
@[simp] theorem an_moist_Gradient_cond : an_moist_Gradient.cond = [5] := rfl
@[simp] theorem an_moist_Gradient_rows : an_moist_Gradient.rows = [] := rfl
@[simp] theorem an_moist_Gradient_loops : an_moist_Gradient.loops = [] := rfl
@[simp] theorem an_moist_Gradient_ecalls : an_moist_Gradient.ecalls = [] := rfl
@[simp] theorem an_moist_Gradient_crows : an_moist_Gradient.crows = [] := rfl
@[simp] theorem an_moist_Gradient_tails : an_moist_Gradient.tails = [] := rfl
@[simp] noncomputable def cl_moist_Gradient : List (Nat × (List D → Option D)) := [(17, F_moist_Check)]
@[simp] noncomputable def ce_moist_Gradient : List (Nat × (List (Nat × O) → List D → Option (D × List (Nat × O)))) := []
noncomputable def c_moist_Gradient : CT := ⟨callOf (cl_moist_Gradient ), callOfE ce_moist_Gradient, gl⟩
@[simp] theorem c_moist_Gradient_p (f : FuncId) (ds : List D) : c_moist_Gradient.p f ds = callOf (cl_moist_Gradient ) f ds := Eq.trans rfl rfl
@[simp] theorem c_moist_Gradient_e (f : FuncId) (hs : List (Nat × O)) (ds : List D) : c_moist_Gradient.e f hs ds = callOfE ce_moist_Gradient f hs ds := Eq.trans rfl rfl
@[simp] theorem c_moist_Gradient_g (g : Nat) : c_moist_Gradient.g g = gl g := Eq.trans rfl rfl
noncomputable def L_moist_Gradient (i n : Nat) (s : St) : Option (E × St) := atN Tryd.prog c_moist_Gradient an_moist_Gradient 11 (bodyOf Tryd.f18) i n s
noncomputable def H_moist_Gradient (n i : Nat) (s : St) : Option (E × St) := atH Tryd.prog c_moist_Gradient an_moist_Gradient 11 (bodyOf Tryd.f18) n i s
@[simp] theorem H_moist_Gradient_eq (n i : Nat) (s : St) : H_moist_Gradient n i s = L_moist_Gradient i n (headOf (an_moist_Gradient.loops.lookup i) s) := rfl
noncomputable def R_moist_Gradient (i : Nat) (s : St) : Option (E × St) := stepL Tryd.prog c_moist_Gradient an_moist_Gradient 11 (bodyOf Tryd.f18) i s
theorem lok_moist_Gradient : okLoops (bodyOf Tryd.f18) = true := by kernel_rfl
noncomputable def F_moist_Gradient (ds : List D) : Option D := runF Tryd.prog c_moist_Gradient an_moist_Gradient 11 (bodyOf Tryd.f18) [.tmp 2] ds
theorem F_moist_Gradient_eq (ds : List D) : F_moist_Gradient ds = runG Tryd.prog c_moist_Gradient (H_moist_Gradient bigL) an_moist_Gradient 11 (bodyOf Tryd.f18) [.tmp 2] ds := runG_eq lok_moist_Gradient _ ds
theorem C_moist_Gradient (ds : List D) (r : D) (h : F_moist_Gradient ds = some r) : Contract Tryd.prog gl 18 ds r := contract_of mix Tryd.func18 rfl (by kernel_rfl) (by kernel_rfl) (by decide) (call := c_moist_Gradient) ⟨callOf_ok cl_moist_Gradient ⟨C_moist_Check, trivial⟩, callOfE_ok ce_moist_Gradient trivial⟩ h
-- (*sawmill/kiln.Kiln).steep: loops [2]; state: params 0..1, then [4, 5, 6, 7, 8, 9, 10]
attribute [simp] Tryd.f36
noncomputable def an_kiln_Kiln_steep : Ann := ⟨[4, 5, 6, 7, 8, 9, 10], [11, 37], [], [(2, [0, 8, 9, 10])], [(0, []), (1, [0, 8, 9, 10])], some [4], [], [], [], []⟩
@[simp] theorem an_kiln_Kiln_steep_draws : an_kiln_Kiln_steep.draws = [] := rfl
@[simp] theorem an_kiln_Kiln_steep_exits : an_kiln_Kiln_steep.exits = [(0, []), (1, [0, 8, 9, 10])] := rfl
@[simp] theorem an_kiln_Kiln_steep_rets : an_kiln_Kiln_steep.rets = some [4] := rfl
@[simp] theorem an_kiln_Kiln_steep_keep : an_kiln_Kiln_steep.keep = [4, 5, 6, 7, 8, 9, 10] := rfl
@[simp] theorem an_kiln_Kiln_steep_cond : an_kiln_Kiln_steep.cond = [11, 37] := rfl
@[simp] theorem an_kiln_Kiln_steep_rows : an_kiln_Kiln_steep.rows = [] := rfl
@[simp] theorem an_kiln_Kiln_steep_loops : an_kiln_Kiln_steep.loops = [(2, [0, 8, 9, 10])] := rfl
@[simp] theorem an_kiln_Kiln_steep_ecalls : an_kiln_Kiln_steep.ecalls = [] := rfl
@[simp] theorem an_kiln_Kiln_steep_crows : an_kiln_Kiln_steep.crows = [] := rfl
@[simp] theorem an_kiln_Kiln_steep_tails : an_kiln_Kiln_steep.tails = [] := rfl
@[simp] noncomputable def cl_kiln_Kiln_steep : List (Nat × (List D → Option D)) := [(18, F_moist_Gradient)]
@[simp] noncomputable def ce_kiln_Kiln_steep : List (Nat × (List (Nat × O) → List D → Option (D × List (Nat × O)))) := []
noncomputable def c_kiln_Kiln_steep : CT := ⟨callOf (cl_kiln_Kiln_steep ), callOfE ce_kiln_Kiln_steep, gl⟩
@[simp] theorem c_kiln_Kiln_steep_p (f : FuncId) (ds : List D) : c_kiln_Kiln_steep.p f ds = callOf (cl_kiln_Kiln_steep ) f ds := Eq.trans rfl rfl
@[simp] theorem c_kiln_Kiln_steep_e (f : FuncId) (hs : List (Nat × O)) (ds : List D) : c_kiln_Kiln_steep.e f hs ds = callOfE ce_kiln_Kiln_steep f hs ds := Eq.trans rfl rfl
@[simp] theorem c_kiln_Kiln_steep_g (g : Nat) : c_kiln_Kiln_steep.g g = gl g := Eq.trans rfl rfl
noncomputable def L_kiln_Kiln_steep (i n : Nat) (s : St) : Option (E × St) := atN Tryd.prog c_kiln_Kiln_steep an_kiln_Kiln_steep 39 (bodyOf Tryd.f36) i n s
noncomputable def H_kiln_Kiln_steep (n i : Nat) (s : St) : Option (E × St) := atH Tryd.prog c_kiln_Kiln_steep an_kiln_Kiln_steep 39 (bodyOf Tryd.f36) n i s
@[simp] theorem H_kiln_Kiln_steep_eq (n i : Nat) (s : St) : H_kiln_Kiln_steep n i s = L_kiln_Kiln_steep i n (headOf (an_kiln_Kiln_steep.loops.lookup i) s) := rfl
noncomputable def R_kiln_Kiln_steep (i : Nat) (s : St) : Option (E × St) := stepL Tryd.prog c_kiln_Kiln_steep an_kiln_Kiln_steep 39 (bodyOf Tryd.f36) i s
theorem lok_kiln_Kiln_steep : okLoops (bodyOf Tryd.f36) = true := by kernel_rfl
theorem L_kiln_Kiln_steep_zero (i : Nat) (s : St) : L_kiln_Kiln_steep i 0 s = none := rfl
theorem L_kiln_Kiln_steep_succ (i n : Nat) (s : St) : L_kiln_Kiln_steep i (n + 1) s = andThen (R_kiln_Kiln_steep i s) (H_kiln_Kiln_steep n i) := atN_succ lok_kiln_Kiln_steep i n s
theorem R_kiln_Kiln_steep_eq (i : Nat) (s : St) : R_kiln_Kiln_steep i s = runS Tryd.prog c_kiln_Kiln_steep (H_kiln_Kiln_steep bigL) an_kiln_Kiln_steep 39 (loopAt (bodyOf Tryd.f36) i) s := rfl
noncomputable def F_kiln_Kiln_steep (ds : List D) : Option D := runF Tryd.prog c_kiln_Kiln_steep an_kiln_Kiln_steep 39 (bodyOf Tryd.f36) [.tmp 4] ds
theorem F_kiln_Kiln_steep_eq (ds : List D) : F_kiln_Kiln_steep ds = runG Tryd.prog c_kiln_Kiln_steep (H_kiln_Kiln_steep bigL) an_kiln_Kiln_steep 39 (bodyOf Tryd.f36) [.tmp 4] ds := runG_eq lok_kiln_Kiln_steep _ ds
theorem C_kiln_Kiln_steep (ds : List D) (r : D) (h : F_kiln_Kiln_steep ds = some r) : Contract Tryd.prog gl 36 ds r := contract_of mix Tryd.func36 rfl (by kernel_rfl) (by kernel_rfl) (by decide) (call := c_kiln_Kiln_steep) ⟨callOf_ok cl_kiln_Kiln_steep ⟨C_moist_Gradient, trivial⟩, callOfE_ok ce_kiln_Kiln_steep trivial⟩ h
-- (*sawmill/kiln.Kiln).Mean: loops [5]; state: params 0..0, then [2, 3, 5, 19, 20, 21]
attribute [simp] Tryd.f24
noncomputable def an_kiln_Kiln_Mean : Ann := ⟨[0, 2, 3, 5, 19, 20, 21], [15, 22], [], [(5, [0, 3, 19, 20, 21])], [(0, [0, 3]), (1, [0, 3, 19, 20, 21])], some [2], [], [], [], []⟩
@[simp] theorem an_kiln_Kiln_Mean_draws : an_kiln_Kiln_Mean.draws = [] := rfl
@[simp] theorem an_kiln_Kiln_Mean_exits : an_kiln_Kiln_Mean.exits = [(0, [0, 3]), (1, [0, 3, 19, 20, 21])] := rfl
@[simp] theorem an_kiln_Kiln_Mean_rets : an_kiln_Kiln_Mean.rets = some [2] := rfl
@[simp] theorem an_kiln_Kiln_Mean_keep : an_kiln_Kiln_Mean.keep = [0, 2, 3, 5, 19, 20, 21] := rfl
@[simp] theorem an_kiln_Kiln_Mean_cond : an_kiln_Kiln_Mean.cond = [15, 22] := rfl
@[simp] theorem an_kiln_Kiln_Mean_rows : an_kiln_Kiln_Mean.rows = [] := rfl
@[simp] theorem an_kiln_Kiln_Mean_loops : an_kiln_Kiln_Mean.loops = [(5, [0, 3, 19, 20, 21])] := rfl
@[simp] theorem an_kiln_Kiln_Mean_ecalls : an_kiln_Kiln_Mean.ecalls = [] := rfl
@[simp] theorem an_kiln_Kiln_Mean_crows : an_kiln_Kiln_Mean.crows = [] := rfl
@[simp] theorem an_kiln_Kiln_Mean_tails : an_kiln_Kiln_Mean.tails = [] := rfl
@[simp] noncomputable def cl_kiln_Kiln_Mean : List (Nat × (List D → Option D)) := []
@[simp] noncomputable def ce_kiln_Kiln_Mean : List (Nat × (List (Nat × O) → List D → Option (D × List (Nat × O)))) := []
noncomputable def c_kiln_Kiln_Mean : CT := ⟨callOf (cl_kiln_Kiln_Mean ), callOfE ce_kiln_Kiln_Mean, gl⟩
@[simp] theorem c_kiln_Kiln_Mean_p (f : FuncId) (ds : List D) : c_kiln_Kiln_Mean.p f ds = callOf (cl_kiln_Kiln_Mean ) f ds := Eq.trans rfl rfl
@[simp] theorem c_kiln_Kiln_Mean_e (f : FuncId) (hs : List (Nat × O)) (ds : List D) : c_kiln_Kiln_Mean.e f hs ds = callOfE ce_kiln_Kiln_Mean f hs ds := Eq.trans rfl rfl
@[simp] theorem c_kiln_Kiln_Mean_g (g : Nat) : c_kiln_Kiln_Mean.g g = gl g := Eq.trans rfl rfl
noncomputable def L_kiln_Kiln_Mean (i n : Nat) (s : St) : Option (E × St) := atN Tryd.prog c_kiln_Kiln_Mean an_kiln_Kiln_Mean 38 (bodyOf Tryd.f24) i n s
noncomputable def H_kiln_Kiln_Mean (n i : Nat) (s : St) : Option (E × St) := atH Tryd.prog c_kiln_Kiln_Mean an_kiln_Kiln_Mean 38 (bodyOf Tryd.f24) n i s
@[simp] theorem H_kiln_Kiln_Mean_eq (n i : Nat) (s : St) : H_kiln_Kiln_Mean n i s = L_kiln_Kiln_Mean i n (headOf (an_kiln_Kiln_Mean.loops.lookup i) s) := rfl
noncomputable def R_kiln_Kiln_Mean (i : Nat) (s : St) : Option (E × St) := stepL Tryd.prog c_kiln_Kiln_Mean an_kiln_Kiln_Mean 38 (bodyOf Tryd.f24) i s
theorem lok_kiln_Kiln_Mean : okLoops (bodyOf Tryd.f24) = true := by kernel_rfl
theorem L_kiln_Kiln_Mean_zero (i : Nat) (s : St) : L_kiln_Kiln_Mean i 0 s = none := rfl
theorem L_kiln_Kiln_Mean_succ (i n : Nat) (s : St) : L_kiln_Kiln_Mean i (n + 1) s = andThen (R_kiln_Kiln_Mean i s) (H_kiln_Kiln_Mean n i) := atN_succ lok_kiln_Kiln_Mean i n s
theorem R_kiln_Kiln_Mean_eq (i : Nat) (s : St) : R_kiln_Kiln_Mean i s = runS Tryd.prog c_kiln_Kiln_Mean (H_kiln_Kiln_Mean bigL) an_kiln_Kiln_Mean 38 (loopAt (bodyOf Tryd.f24) i) s := rfl
noncomputable def F_kiln_Kiln_Mean (ds : List D) : Option D := runF Tryd.prog c_kiln_Kiln_Mean an_kiln_Kiln_Mean 38 (bodyOf Tryd.f24) [.tmp 2] ds
theorem F_kiln_Kiln_Mean_eq (ds : List D) : F_kiln_Kiln_Mean ds = runG Tryd.prog c_kiln_Kiln_Mean (H_kiln_Kiln_Mean bigL) an_kiln_Kiln_Mean 38 (bodyOf Tryd.f24) [.tmp 2] ds := runG_eq lok_kiln_Kiln_Mean _ ds
theorem C_kiln_Kiln_Mean (ds : List D) (r : D) (h : F_kiln_Kiln_Mean ds = some r) : Contract Tryd.prog gl 24 ds r := contract_of mix Tryd.func24 rfl (by kernel_rfl) (by kernel_rfl) (by decide) (call := c_kiln_Kiln_Mean) ⟨callOf_ok cl_kiln_Kiln_Mean trivial, callOfE_ok ce_kiln_Kiln_Mean trivial⟩ h
-- sawmill/schedule.Ends: loops []; state: params 0..3, then [4, 8, 9, 10]
attribute [simp] Tryd.f37
noncomputable def an_schedule_Ends : Ann := ⟨[1, 4, 8, 9, 10], [19, 44], [], [], [], some [8, 9], [], [], [], []⟩
@[simp] theorem an_schedule_Ends_draws : an_schedule_Ends.draws = [] := rfl
@[simp] theorem an_schedule_Ends_exits : an_schedule_Ends.exits = [] := rfl
@[simp] theorem an_schedule_Ends_rets : an_schedule_Ends.rets = some [8, 9] := rfl
@[simp] theorem an_schedule_Ends_keep : an_schedule_Ends.keep = [1, 4, 8, 9, 10] := rfl
@[simp] theorem an_schedule_Ends_cond : an_schedule_Ends.cond = [19, 44] := rfl
@[simp] theorem an_schedule_Ends_rows : an_schedule_Ends.rows = [] := rfl
@[simp] theorem an_schedule_Ends_loops : an_schedule_Ends.loops = [] := rfl
@[simp] theorem an_schedule_Ends_ecalls : an_schedule_Ends.ecalls = [] := rfl
@[simp] theorem an_schedule_Ends_crows : an_schedule_Ends.crows = [] := rfl
@[simp] theorem an_schedule_Ends_tails : an_schedule_Ends.tails = [] := rfl
@[simp] noncomputable def cl_schedule_Ends : List (Nat × (List D → Option D)) := []
@[simp] noncomputable def ce_schedule_Ends : List (Nat × (List (Nat × O) → List D → Option (D × List (Nat × O)))) := []
noncomputable def c_schedule_Ends : CT := ⟨callOf (cl_schedule_Ends ), callOfE ce_schedule_Ends, gl⟩
@[simp] theorem c_schedule_Ends_p (f : FuncId) (ds : List D) : c_schedule_Ends.p f ds = callOf (cl_schedule_Ends ) f ds := Eq.trans rfl rfl
@[simp] theorem c_schedule_Ends_e (f : FuncId) (hs : List (Nat × O)) (ds : List D) : c_schedule_Ends.e f hs ds = callOfE ce_schedule_Ends f hs ds := Eq.trans rfl rfl
@[simp] theorem c_schedule_Ends_g (g : Nat) : c_schedule_Ends.g g = gl g := Eq.trans rfl rfl
noncomputable def L_schedule_Ends (i n : Nat) (s : St) : Option (E × St) := atN Tryd.prog c_schedule_Ends an_schedule_Ends 48 (bodyOf Tryd.f37) i n s
noncomputable def H_schedule_Ends (n i : Nat) (s : St) : Option (E × St) := atH Tryd.prog c_schedule_Ends an_schedule_Ends 48 (bodyOf Tryd.f37) n i s
@[simp] theorem H_schedule_Ends_eq (n i : Nat) (s : St) : H_schedule_Ends n i s = L_schedule_Ends i n (headOf (an_schedule_Ends.loops.lookup i) s) := rfl
noncomputable def R_schedule_Ends (i : Nat) (s : St) : Option (E × St) := stepL Tryd.prog c_schedule_Ends an_schedule_Ends 48 (bodyOf Tryd.f37) i s
theorem lok_schedule_Ends : okLoops (bodyOf Tryd.f37) = true := by kernel_rfl
noncomputable def F_schedule_Ends (ds : List D) : Option D := runF Tryd.prog c_schedule_Ends an_schedule_Ends 48 (bodyOf Tryd.f37) [.tmp 8, .tmp 9] ds
theorem F_schedule_Ends_eq (ds : List D) : F_schedule_Ends ds = runG Tryd.prog c_schedule_Ends (H_schedule_Ends bigL) an_schedule_Ends 48 (bodyOf Tryd.f37) [.tmp 8, .tmp 9] ds := runG_eq lok_schedule_Ends _ ds
theorem C_schedule_Ends (ds : List D) (r : D) (h : F_schedule_Ends ds = some r) : Contract Tryd.prog gl 37 ds r := contract_of mix Tryd.func37 rfl (by kernel_rfl) (by kernel_rfl) (by decide) (call := c_schedule_Ends) ⟨callOf_ok cl_schedule_Ends trivial, callOfE_ok ce_schedule_Ends trivial⟩ h
-- (*sawmill/kiln.Kiln).Tick: loops []; state: params 0..1, then [4, 5, 6, 7, 8, 9]; WITH OBJECTS
attribute [simp] Tryd.f14
noncomputable def an_kiln_Kiln_Tick : Ann := ⟨[0, 1, 4, 5, 6, 7, 8, 9], [15, 55, 101], [], [], [], some [4], [(3, 14), (4, 13), (13, 19)], [], [], []⟩
@[simp] theorem an_kiln_Kiln_Tick_draws : an_kiln_Kiln_Tick.draws = [(3, 14), (4, 13), (13, 19)] := rfl
@[simp] theorem an_kiln_Kiln_Tick_exits : an_kiln_Kiln_Tick.exits = [] := rfl
@[simp] theorem an_kiln_Kiln_Tick_rets : an_kiln_Kiln_Tick.rets = some [4] := rfl
@[simp] theorem an_kiln_Kiln_Tick_keep : an_kiln_Kiln_Tick.keep = [0, 1, 4, 5, 6, 7, 8, 9] := rfl
@[simp] theorem an_kiln_Kiln_Tick_cond : an_kiln_Kiln_Tick.cond = [15, 55, 101] := rfl
@[simp] theorem an_kiln_Kiln_Tick_rows : an_kiln_Kiln_Tick.rows = [] := rfl
@[simp] theorem an_kiln_Kiln_Tick_loops : an_kiln_Kiln_Tick.loops = [] := rfl
@[simp] theorem an_kiln_Kiln_Tick_ecalls : an_kiln_Kiln_Tick.ecalls = [] := rfl
@[simp] theorem an_kiln_Kiln_Tick_crows : an_kiln_Kiln_Tick.crows = [] := rfl
@[simp] theorem an_kiln_Kiln_Tick_tails : an_kiln_Kiln_Tick.tails = [] := rfl
@[simp] noncomputable def cl_kiln_Kiln_Tick : List (Nat × (List D → Option D)) := [(21, F_kiln_Kiln_Done), (24, F_kiln_Kiln_Mean), (32, F_schedule_Target), (33, F_air_Next), (34, F_kiln_still), (35, F_kiln_Kiln_dried), (36, F_kiln_Kiln_steep), (37, F_schedule_Ends)]
@[simp] noncomputable def ce_kiln_Kiln_Tick : List (Nat × (List (Nat × O) → List D → Option (D × List (Nat × O)))) := []
noncomputable def c_kiln_Kiln_Tick : CT := ⟨callOf (cl_kiln_Kiln_Tick ), callOfE ce_kiln_Kiln_Tick, gl⟩
@[simp] theorem c_kiln_Kiln_Tick_p (f : FuncId) (ds : List D) : c_kiln_Kiln_Tick.p f ds = callOf (cl_kiln_Kiln_Tick ) f ds := Eq.trans rfl rfl
@[simp] theorem c_kiln_Kiln_Tick_e (f : FuncId) (hs : List (Nat × O)) (ds : List D) : c_kiln_Kiln_Tick.e f hs ds = callOfE ce_kiln_Kiln_Tick f hs ds := Eq.trans rfl rfl
@[simp] theorem c_kiln_Kiln_Tick_g (g : Nat) : c_kiln_Kiln_Tick.g g = gl g := Eq.trans rfl rfl
noncomputable def L_kiln_Kiln_Tick (i n : Nat) (s : St) : Option (E × St) := atN Tryd.prog c_kiln_Kiln_Tick an_kiln_Kiln_Tick 112 (bodyOf Tryd.f14) i n s
noncomputable def H_kiln_Kiln_Tick (n i : Nat) (s : St) : Option (E × St) := atH Tryd.prog c_kiln_Kiln_Tick an_kiln_Kiln_Tick 112 (bodyOf Tryd.f14) n i s
@[simp] theorem H_kiln_Kiln_Tick_eq (n i : Nat) (s : St) : H_kiln_Kiln_Tick n i s = L_kiln_Kiln_Tick i n (headOf (an_kiln_Kiln_Tick.loops.lookup i) s) := rfl
noncomputable def R_kiln_Kiln_Tick (i : Nat) (s : St) : Option (E × St) := stepL Tryd.prog c_kiln_Kiln_Tick an_kiln_Kiln_Tick 112 (bodyOf Tryd.f14) i s
theorem lok_kiln_Kiln_Tick : okLoops (bodyOf Tryd.f14) = true := by kernel_rfl
noncomputable def E_kiln_Kiln_Tick (hs : List (Nat × O)) (ds : List D) : Option (D × List (Nat × O)) := runE Tryd.prog c_kiln_Kiln_Tick an_kiln_Kiln_Tick 112 (bodyOf Tryd.f14) [.tmp 4] hs ds
theorem E_kiln_Kiln_Tick_eq (hs : List (Nat × O)) (ds : List D) : E_kiln_Kiln_Tick hs ds = runGE Tryd.prog c_kiln_Kiln_Tick (H_kiln_Kiln_Tick bigL) an_kiln_Kiln_Tick 112 (bodyOf Tryd.f14) [.tmp 4] hs ds := runGE_eq lok_kiln_Kiln_Tick _ hs ds
theorem CE_kiln_Kiln_Tick (hs : List (Nat × O)) (ds : List D) (r : D) (hs' : List (Nat × O)) (h : E_kiln_Kiln_Tick hs ds = some (r, hs')) : ContractE Tryd.prog gl 14 hs ds r hs' := contractE_of mix Tryd.func14 rfl (by kernel_rfl) (by kernel_rfl) (by decide) (call := c_kiln_Kiln_Tick) ⟨callOf_ok cl_kiln_Kiln_Tick ⟨C_kiln_Kiln_Done, C_kiln_Kiln_Mean, C_schedule_Target, C_air_Next, C_kiln_still, C_kiln_Kiln_dried, C_kiln_Kiln_steep, C_schedule_Ends, trivial⟩, callOfE_ok ce_kiln_Kiln_Tick trivial⟩ h
-- (*sawmill/kiln.Kiln).Items: loops []; state: params 0..0, then [2]
attribute [simp] Tryd.f16
noncomputable def an_kiln_Kiln_Items : Ann := ⟨[0, 2], [4], [], [], [], some [2], [], [], [], []⟩
@[simp] theorem an_kiln_Kiln_Items_draws : an_kiln_Kiln_Items.draws = [] := rfl
@[simp] theorem an_kiln_Kiln_Items_exits : an_kiln_Kiln_Items.exits = [] := rfl
@[simp] theorem an_kiln_Kiln_Items_rets : an_kiln_Kiln_Items.rets = some [2] := rfl
@[simp] theorem an_kiln_Kiln_Items_keep : an_kiln_Kiln_Items.keep = [0, 2] := rfl
@[simp] theorem an_kiln_Kiln_Items_cond : an_kiln_Kiln_Items.cond = [4] := rfl
@[simp] theorem an_kiln_Kiln_Items_rows : an_kiln_Kiln_Items.rows = [] := rfl
@[simp] theorem an_kiln_Kiln_Items_loops : an_kiln_Kiln_Items.loops = [] := rfl
@[simp] theorem an_kiln_Kiln_Items_ecalls : an_kiln_Kiln_Items.ecalls = [] := rfl
@[simp] theorem an_kiln_Kiln_Items_crows : an_kiln_Kiln_Items.crows = [] := rfl
@[simp] theorem an_kiln_Kiln_Items_tails : an_kiln_Kiln_Items.tails = [] := rfl
@[simp] noncomputable def cl_kiln_Kiln_Items : List (Nat × (List D → Option D)) := [(38, NF_slices_Clone_kiln_Item_kiln_Item)]
@[simp] noncomputable def ce_kiln_Kiln_Items : List (Nat × (List (Nat × O) → List D → Option (D × List (Nat × O)))) := []
noncomputable def c_kiln_Kiln_Items : CT := ⟨callOf (cl_kiln_Kiln_Items ), callOfE ce_kiln_Kiln_Items, gl⟩
@[simp] theorem c_kiln_Kiln_Items_p (f : FuncId) (ds : List D) : c_kiln_Kiln_Items.p f ds = callOf (cl_kiln_Kiln_Items ) f ds := Eq.trans rfl rfl
@[simp] theorem c_kiln_Kiln_Items_e (f : FuncId) (hs : List (Nat × O)) (ds : List D) : c_kiln_Kiln_Items.e f hs ds = callOfE ce_kiln_Kiln_Items f hs ds := Eq.trans rfl rfl
@[simp] theorem c_kiln_Kiln_Items_g (g : Nat) : c_kiln_Kiln_Items.g g = gl g := Eq.trans rfl rfl
noncomputable def L_kiln_Kiln_Items (i n : Nat) (s : St) : Option (E × St) := atN Tryd.prog c_kiln_Kiln_Items an_kiln_Kiln_Items 10 (bodyOf Tryd.f16) i n s
noncomputable def H_kiln_Kiln_Items (n i : Nat) (s : St) : Option (E × St) := atH Tryd.prog c_kiln_Kiln_Items an_kiln_Kiln_Items 10 (bodyOf Tryd.f16) n i s
@[simp] theorem H_kiln_Kiln_Items_eq (n i : Nat) (s : St) : H_kiln_Kiln_Items n i s = L_kiln_Kiln_Items i n (headOf (an_kiln_Kiln_Items.loops.lookup i) s) := rfl
noncomputable def R_kiln_Kiln_Items (i : Nat) (s : St) : Option (E × St) := stepL Tryd.prog c_kiln_Kiln_Items an_kiln_Kiln_Items 10 (bodyOf Tryd.f16) i s
theorem lok_kiln_Kiln_Items : okLoops (bodyOf Tryd.f16) = true := by kernel_rfl
noncomputable def F_kiln_Kiln_Items (ds : List D) : Option D := runF Tryd.prog c_kiln_Kiln_Items an_kiln_Kiln_Items 10 (bodyOf Tryd.f16) [.tmp 2] ds
theorem F_kiln_Kiln_Items_eq (ds : List D) : F_kiln_Kiln_Items ds = runG Tryd.prog c_kiln_Kiln_Items (H_kiln_Kiln_Items bigL) an_kiln_Kiln_Items 10 (bodyOf Tryd.f16) [.tmp 2] ds := runG_eq lok_kiln_Kiln_Items _ ds
theorem C_kiln_Kiln_Items (ds : List D) (r : D) (h : F_kiln_Kiln_Items ds = some r) : Contract Tryd.prog gl 16 ds r := contract_of mix Tryd.func16 rfl (by kernel_rfl) (by kernel_rfl) (by decide) (call := c_kiln_Kiln_Items) ⟨callOf_ok cl_kiln_Kiln_Items ⟨NC_slices_Clone_kiln_Item_kiln_Item, trivial⟩, callOfE_ok ce_kiln_Kiln_Items trivial⟩ h
-- sawmill/sawmilllaw38.items: loops [4]; state: params 0..0, then [2, 3, 4, 5]
attribute [simp] Tryd.f22
noncomputable def an_law38_items : Ann := ⟨[2, 3, 4, 5], [11], [4], [(4, [3, 4, 5])], [(0, [4]), (1, [3, 4, 5])], some [2], [(6, 13)], [], [], []⟩
@[simp] theorem an_law38_items_draws : an_law38_items.draws = [(6, 13)] := rfl
@[simp] theorem an_law38_items_exits : an_law38_items.exits = [(0, [4]), (1, [3, 4, 5])] := rfl
@[simp] theorem an_law38_items_rets : an_law38_items.rets = some [2] := rfl
@[simp] theorem an_law38_items_keep : an_law38_items.keep = [2, 3, 4, 5] := rfl
@[simp] theorem an_law38_items_cond : an_law38_items.cond = [11] := rfl
@[simp] theorem an_law38_items_rows : an_law38_items.rows = [4] := rfl
@[simp] theorem an_law38_items_loops : an_law38_items.loops = [(4, [3, 4, 5])] := rfl
@[simp] theorem an_law38_items_ecalls : an_law38_items.ecalls = [] := rfl
@[simp] theorem an_law38_items_crows : an_law38_items.crows = [] := rfl
@[simp] theorem an_law38_items_tails : an_law38_items.tails = [] := rfl
@[simp] noncomputable def cl_law38_items : List (Nat × (List D → Option D)) := [(16, F_kiln_Kiln_Items)]
@[simp] noncomputable def ce_law38_items : List (Nat × (List (Nat × O) → List D → Option (D × List (Nat × O)))) := []
noncomputable def c_law38_items : CT := ⟨callOf (cl_law38_items ), callOfE ce_law38_items, gl⟩
@[simp] theorem c_law38_items_p (f : FuncId) (ds : List D) : c_law38_items.p f ds = callOf (cl_law38_items ) f ds := Eq.trans rfl rfl
@[simp] theorem c_law38_items_e (f : FuncId) (hs : List (Nat × O)) (ds : List D) : c_law38_items.e f hs ds = callOfE ce_law38_items f hs ds := Eq.trans rfl rfl
@[simp] theorem c_law38_items_g (g : Nat) : c_law38_items.g g = gl g := Eq.trans rfl rfl
noncomputable def L_law38_items (i n : Nat) (s : St) : Option (E × St) := atN Tryd.prog c_law38_items an_law38_items 29 (bodyOf Tryd.f22) i n s
noncomputable def H_law38_items (n i : Nat) (s : St) : Option (E × St) := atH Tryd.prog c_law38_items an_law38_items 29 (bodyOf Tryd.f22) n i s
@[simp] theorem H_law38_items_eq (n i : Nat) (s : St) : H_law38_items n i s = L_law38_items i n (headOf (an_law38_items.loops.lookup i) s) := rfl
noncomputable def R_law38_items (i : Nat) (s : St) : Option (E × St) := stepL Tryd.prog c_law38_items an_law38_items 29 (bodyOf Tryd.f22) i s
theorem lok_law38_items : okLoops (bodyOf Tryd.f22) = true := by kernel_rfl
theorem L_law38_items_zero (i : Nat) (s : St) : L_law38_items i 0 s = none := rfl
theorem L_law38_items_succ (i n : Nat) (s : St) : L_law38_items i (n + 1) s = andThen (R_law38_items i s) (H_law38_items n i) := atN_succ lok_law38_items i n s
theorem R_law38_items_eq (i : Nat) (s : St) : R_law38_items i s = runS Tryd.prog c_law38_items (H_law38_items bigL) an_law38_items 29 (loopAt (bodyOf Tryd.f22) i) s := rfl
noncomputable def F_law38_items (ds : List D) : Option D := runF Tryd.prog c_law38_items an_law38_items 29 (bodyOf Tryd.f22) [.tmp 2] ds
theorem F_law38_items_eq (ds : List D) : F_law38_items ds = runG Tryd.prog c_law38_items (H_law38_items bigL) an_law38_items 29 (bodyOf Tryd.f22) [.tmp 2] ds := runG_eq lok_law38_items _ ds
theorem C_law38_items (ds : List D) (r : D) (h : F_law38_items ds = some r) : Contract Tryd.prog gl 22 ds r := contract_of mix Tryd.func22 rfl (by kernel_rfl) (by kernel_rfl) (by decide) (call := c_law38_items) ⟨callOf_ok cl_law38_items ⟨C_kiln_Kiln_Items, trivial⟩, callOfE_ok ce_law38_items trivial⟩ h
-- (*sawmill/kiln.Kiln).Stage: loops []; state: params 0..0, then [2]
attribute [simp] Tryd.f20
noncomputable def an_kiln_Kiln_Stage : Ann := ⟨[0, 2], [4], [], [], [], some [2], [], [], [], []⟩
@[simp] theorem an_kiln_Kiln_Stage_draws : an_kiln_Kiln_Stage.draws = [] := rfl
@[simp] theorem an_kiln_Kiln_Stage_exits : an_kiln_Kiln_Stage.exits = [] := rfl
@[simp] theorem an_kiln_Kiln_Stage_rets : an_kiln_Kiln_Stage.rets = some [2] := rfl
@[simp] theorem an_kiln_Kiln_Stage_keep : an_kiln_Kiln_Stage.keep = [0, 2] := rfl
@[simp] theorem an_kiln_Kiln_Stage_cond : an_kiln_Kiln_Stage.cond = [4] := rfl
@[simp] theorem an_kiln_Kiln_Stage_rows : an_kiln_Kiln_Stage.rows = [] := rfl
@[simp] theorem an_kiln_Kiln_Stage_loops : an_kiln_Kiln_Stage.loops = [] := rfl
@[simp] theorem an_kiln_Kiln_Stage_ecalls : an_kiln_Kiln_Stage.ecalls = [] := rfl
@[simp] theorem an_kiln_Kiln_Stage_crows : an_kiln_Kiln_Stage.crows = [] := rfl
@[simp] theorem an_kiln_Kiln_Stage_tails : an_kiln_Kiln_Stage.tails = [] := rfl
@[simp] noncomputable def cl_kiln_Kiln_Stage : List (Nat × (List D → Option D)) := []
@[simp] noncomputable def ce_kiln_Kiln_Stage : List (Nat × (List (Nat × O) → List D → Option (D × List (Nat × O)))) := []
noncomputable def c_kiln_Kiln_Stage : CT := ⟨callOf (cl_kiln_Kiln_Stage ), callOfE ce_kiln_Kiln_Stage, gl⟩
@[simp] theorem c_kiln_Kiln_Stage_p (f : FuncId) (ds : List D) : c_kiln_Kiln_Stage.p f ds = callOf (cl_kiln_Kiln_Stage ) f ds := Eq.trans rfl rfl
@[simp] theorem c_kiln_Kiln_Stage_e (f : FuncId) (hs : List (Nat × O)) (ds : List D) : c_kiln_Kiln_Stage.e f hs ds = callOfE ce_kiln_Kiln_Stage f hs ds := Eq.trans rfl rfl
@[simp] theorem c_kiln_Kiln_Stage_g (g : Nat) : c_kiln_Kiln_Stage.g g = gl g := Eq.trans rfl rfl
noncomputable def L_kiln_Kiln_Stage (i n : Nat) (s : St) : Option (E × St) := atN Tryd.prog c_kiln_Kiln_Stage an_kiln_Kiln_Stage 9 (bodyOf Tryd.f20) i n s
noncomputable def H_kiln_Kiln_Stage (n i : Nat) (s : St) : Option (E × St) := atH Tryd.prog c_kiln_Kiln_Stage an_kiln_Kiln_Stage 9 (bodyOf Tryd.f20) n i s
@[simp] theorem H_kiln_Kiln_Stage_eq (n i : Nat) (s : St) : H_kiln_Kiln_Stage n i s = L_kiln_Kiln_Stage i n (headOf (an_kiln_Kiln_Stage.loops.lookup i) s) := rfl
noncomputable def R_kiln_Kiln_Stage (i : Nat) (s : St) : Option (E × St) := stepL Tryd.prog c_kiln_Kiln_Stage an_kiln_Kiln_Stage 9 (bodyOf Tryd.f20) i s
theorem lok_kiln_Kiln_Stage : okLoops (bodyOf Tryd.f20) = true := by kernel_rfl
noncomputable def F_kiln_Kiln_Stage (ds : List D) : Option D := runF Tryd.prog c_kiln_Kiln_Stage an_kiln_Kiln_Stage 9 (bodyOf Tryd.f20) [.tmp 2] ds
theorem F_kiln_Kiln_Stage_eq (ds : List D) : F_kiln_Kiln_Stage ds = runG Tryd.prog c_kiln_Kiln_Stage (H_kiln_Kiln_Stage bigL) an_kiln_Kiln_Stage 9 (bodyOf Tryd.f20) [.tmp 2] ds := runG_eq lok_kiln_Kiln_Stage _ ds
theorem C_kiln_Kiln_Stage (ds : List D) (r : D) (h : F_kiln_Kiln_Stage ds = some r) : Contract Tryd.prog gl 20 ds r := contract_of mix Tryd.func20 rfl (by kernel_rfl) (by kernel_rfl) (by decide) (call := c_kiln_Kiln_Stage) ⟨callOf_ok cl_kiln_Kiln_Stage trivial, callOfE_ok ce_kiln_Kiln_Stage trivial⟩ h
-- (*sawmill/kiln.Kiln).Ticks: loops []; state: params 0..0, then [2, 3]
attribute [simp] Tryd.f19
noncomputable def an_kiln_Kiln_Ticks : Ann := ⟨[0, 2, 3], [5], [], [], [], some [2, 3], [(3, 9)], [], [], []⟩
@[simp] theorem an_kiln_Kiln_Ticks_draws : an_kiln_Kiln_Ticks.draws = [(3, 9)] := rfl
@[simp] theorem an_kiln_Kiln_Ticks_exits : an_kiln_Kiln_Ticks.exits = [] := rfl
@[simp] theorem an_kiln_Kiln_Ticks_rets : an_kiln_Kiln_Ticks.rets = some [2, 3] := rfl
@[simp] theorem an_kiln_Kiln_Ticks_keep : an_kiln_Kiln_Ticks.keep = [0, 2, 3] := rfl
@[simp] theorem an_kiln_Kiln_Ticks_cond : an_kiln_Kiln_Ticks.cond = [5] := rfl
@[simp] theorem an_kiln_Kiln_Ticks_rows : an_kiln_Kiln_Ticks.rows = [] := rfl
@[simp] theorem an_kiln_Kiln_Ticks_loops : an_kiln_Kiln_Ticks.loops = [] := rfl
@[simp] theorem an_kiln_Kiln_Ticks_ecalls : an_kiln_Kiln_Ticks.ecalls = [] := rfl
@[simp] theorem an_kiln_Kiln_Ticks_crows : an_kiln_Kiln_Ticks.crows = [] := rfl
@[simp] theorem an_kiln_Kiln_Ticks_tails : an_kiln_Kiln_Ticks.tails = [] := rfl
@[simp] noncomputable def cl_kiln_Kiln_Ticks : List (Nat × (List D → Option D)) := []
@[simp] noncomputable def ce_kiln_Kiln_Ticks : List (Nat × (List (Nat × O) → List D → Option (D × List (Nat × O)))) := []
noncomputable def c_kiln_Kiln_Ticks : CT := ⟨callOf (cl_kiln_Kiln_Ticks ), callOfE ce_kiln_Kiln_Ticks, gl⟩
@[simp] theorem c_kiln_Kiln_Ticks_p (f : FuncId) (ds : List D) : c_kiln_Kiln_Ticks.p f ds = callOf (cl_kiln_Kiln_Ticks ) f ds := Eq.trans rfl rfl
@[simp] theorem c_kiln_Kiln_Ticks_e (f : FuncId) (hs : List (Nat × O)) (ds : List D) : c_kiln_Kiln_Ticks.e f hs ds = callOfE ce_kiln_Kiln_Ticks f hs ds := Eq.trans rfl rfl
@[simp] theorem c_kiln_Kiln_Ticks_g (g : Nat) : c_kiln_Kiln_Ticks.g g = gl g := Eq.trans rfl rfl
noncomputable def L_kiln_Kiln_Ticks (i n : Nat) (s : St) : Option (E × St) := atN Tryd.prog c_kiln_Kiln_Ticks an_kiln_Kiln_Ticks 14 (bodyOf Tryd.f19) i n s
noncomputable def H_kiln_Kiln_Ticks (n i : Nat) (s : St) : Option (E × St) := atH Tryd.prog c_kiln_Kiln_Ticks an_kiln_Kiln_Ticks 14 (bodyOf Tryd.f19) n i s
@[simp] theorem H_kiln_Kiln_Ticks_eq (n i : Nat) (s : St) : H_kiln_Kiln_Ticks n i s = L_kiln_Kiln_Ticks i n (headOf (an_kiln_Kiln_Ticks.loops.lookup i) s) := rfl
noncomputable def R_kiln_Kiln_Ticks (i : Nat) (s : St) : Option (E × St) := stepL Tryd.prog c_kiln_Kiln_Ticks an_kiln_Kiln_Ticks 14 (bodyOf Tryd.f19) i s
theorem lok_kiln_Kiln_Ticks : okLoops (bodyOf Tryd.f19) = true := by kernel_rfl
noncomputable def F_kiln_Kiln_Ticks (ds : List D) : Option D := runF Tryd.prog c_kiln_Kiln_Ticks an_kiln_Kiln_Ticks 14 (bodyOf Tryd.f19) [.tmp 2, .tmp 3] ds
theorem F_kiln_Kiln_Ticks_eq (ds : List D) : F_kiln_Kiln_Ticks ds = runG Tryd.prog c_kiln_Kiln_Ticks (H_kiln_Kiln_Ticks bigL) an_kiln_Kiln_Ticks 14 (bodyOf Tryd.f19) [.tmp 2, .tmp 3] ds := runG_eq lok_kiln_Kiln_Ticks _ ds
theorem C_kiln_Kiln_Ticks (ds : List D) (r : D) (h : F_kiln_Kiln_Ticks ds = some r) : Contract Tryd.prog gl 19 ds r := contract_of mix Tryd.func19 rfl (by kernel_rfl) (by kernel_rfl) (by decide) (call := c_kiln_Kiln_Ticks) ⟨callOf_ok cl_kiln_Kiln_Ticks trivial, callOfE_ok ce_kiln_Kiln_Ticks trivial⟩ h
-- sawmill/sawmilllaw38.awake: loops []; state: params 0..-1, then [0, 1, 2, 3, 4, 5, 6, 7]
attribute [simp] Tryd.f9
noncomputable def an_law38_awake : Ann := ⟨[0, 1, 2, 3, 4, 5, 6, 7], [39, 94], [], [], [], some [0], [], [(10, false), (14, false)], [], []⟩
@[simp] theorem an_law38_awake_draws : an_law38_awake.draws = [] := rfl
@[simp] theorem an_law38_awake_exits : an_law38_awake.exits = [] := rfl
@[simp] theorem an_law38_awake_rets : an_law38_awake.rets = some [0] := rfl
@[simp] theorem an_law38_awake_keep : an_law38_awake.keep = [0, 1, 2, 3, 4, 5, 6, 7] := rfl
@[simp] theorem an_law38_awake_cond : an_law38_awake.cond = [39, 94] := rfl
@[simp] theorem an_law38_awake_rows : an_law38_awake.rows = [] := rfl
@[simp] theorem an_law38_awake_loops : an_law38_awake.loops = [] := rfl
@[simp] theorem an_law38_awake_ecalls : an_law38_awake.ecalls = [(10, false), (14, false)] := rfl
@[simp] theorem an_law38_awake_crows : an_law38_awake.crows = [] := rfl
@[simp] theorem an_law38_awake_tails : an_law38_awake.tails = [] := rfl
@[simp] noncomputable def cl_law38_awake : List (Nat × (List D → Option D)) := [(15, F_kiln_Kiln_Climate), (19, F_kiln_Kiln_Ticks), (20, F_kiln_Kiln_Stage), (21, F_kiln_Kiln_Done), (22, F_law38_items)]
@[simp] noncomputable def ce_law38_awake : List (Nat × (List (Nat × O) → List D → Option (D × List (Nat × O)))) := [(10, E_law38_begun), (14, E_kiln_Kiln_Tick)]
noncomputable def c_law38_awake : CT := ⟨callOf (cl_law38_awake ), callOfE ce_law38_awake, gl⟩
@[simp] theorem c_law38_awake_p (f : FuncId) (ds : List D) : c_law38_awake.p f ds = callOf (cl_law38_awake ) f ds := Eq.trans rfl rfl
@[simp] theorem c_law38_awake_e (f : FuncId) (hs : List (Nat × O)) (ds : List D) : c_law38_awake.e f hs ds = callOfE ce_law38_awake f hs ds := Eq.trans rfl rfl
@[simp] theorem c_law38_awake_g (g : Nat) : c_law38_awake.g g = gl g := Eq.trans rfl rfl
noncomputable def L_law38_awake (i n : Nat) (s : St) : Option (E × St) := atN Tryd.prog c_law38_awake an_law38_awake 106 (bodyOf Tryd.f9) i n s
noncomputable def H_law38_awake (n i : Nat) (s : St) : Option (E × St) := atH Tryd.prog c_law38_awake an_law38_awake 106 (bodyOf Tryd.f9) n i s
@[simp] theorem H_law38_awake_eq (n i : Nat) (s : St) : H_law38_awake n i s = L_law38_awake i n (headOf (an_law38_awake.loops.lookup i) s) := rfl
noncomputable def R_law38_awake (i : Nat) (s : St) : Option (E × St) := stepL Tryd.prog c_law38_awake an_law38_awake 106 (bodyOf Tryd.f9) i s
theorem lok_law38_awake : okLoops (bodyOf Tryd.f9) = true := by kernel_rfl
noncomputable def F_law38_awake (ds : List D) : Option D := runF Tryd.prog c_law38_awake an_law38_awake 106 (bodyOf Tryd.f9) [.tmp 0] ds
theorem F_law38_awake_eq (ds : List D) : F_law38_awake ds = runG Tryd.prog c_law38_awake (H_law38_awake bigL) an_law38_awake 106 (bodyOf Tryd.f9) [.tmp 0] ds := runG_eq lok_law38_awake _ ds
theorem C_law38_awake (ds : List D) (r : D) (h : F_law38_awake ds = some r) : Contract Tryd.prog gl 9 ds r := contract_of mix Tryd.func9 rfl (by kernel_rfl) (by kernel_rfl) (by decide) (call := c_law38_awake) ⟨callOf_ok cl_law38_awake ⟨C_kiln_Kiln_Climate, C_kiln_Kiln_Ticks, C_kiln_Kiln_Stage, C_kiln_Kiln_Done, C_law38_items, trivial⟩, callOfE_ok ce_law38_awake ⟨CE_law38_begun, CE_kiln_Kiln_Tick, trivial⟩⟩ h
-- sawmill/sawmillref02.digit: loops []; state: params 0..0, then [2]
attribute [simp] Tryd.f54
noncomputable def an_ref02_digit : Ann := ⟨[2], [], [], [], [], some [2], [], [], [], []⟩
@[simp] theorem an_ref02_digit_draws : an_ref02_digit.draws = [] := rfl
@[simp] theorem an_ref02_digit_exits : an_ref02_digit.exits = [] := rfl
@[simp] theorem an_ref02_digit_rets : an_ref02_digit.rets = some [2] := rfl
@[simp] theorem an_ref02_digit_keep : an_ref02_digit.keep = [2] := rfl
@[simp] theorem an_ref02_digit_cond : an_ref02_digit.cond = [] := rfl
@[simp] theorem an_ref02_digit_rows : an_ref02_digit.rows = [] := rfl
@[simp] theorem an_ref02_digit_loops : an_ref02_digit.loops = [] := rfl
@[simp] theorem an_ref02_digit_ecalls : an_ref02_digit.ecalls = [] := rfl
@[simp] theorem an_ref02_digit_crows : an_ref02_digit.crows = [] := rfl
@[simp] theorem an_ref02_digit_tails : an_ref02_digit.tails = [] := rfl
@[simp] noncomputable def cl_ref02_digit : List (Nat × (List D → Option D)) := []
@[simp] noncomputable def ce_ref02_digit : List (Nat × (List (Nat × O) → List D → Option (D × List (Nat × O)))) := []
noncomputable def c_ref02_digit : CT := ⟨callOf (cl_ref02_digit ), callOfE ce_ref02_digit, gl⟩
@[simp] theorem c_ref02_digit_p (f : FuncId) (ds : List D) : c_ref02_digit.p f ds = callOf (cl_ref02_digit ) f ds := Eq.trans rfl rfl
@[simp] theorem c_ref02_digit_e (f : FuncId) (hs : List (Nat × O)) (ds : List D) : c_ref02_digit.e f hs ds = callOfE ce_ref02_digit f hs ds := Eq.trans rfl rfl
@[simp] theorem c_ref02_digit_g (g : Nat) : c_ref02_digit.g g = gl g := Eq.trans rfl rfl
noncomputable def L_ref02_digit (i n : Nat) (s : St) : Option (E × St) := atN Tryd.prog c_ref02_digit an_ref02_digit 9 (bodyOf Tryd.f54) i n s
noncomputable def H_ref02_digit (n i : Nat) (s : St) : Option (E × St) := atH Tryd.prog c_ref02_digit an_ref02_digit 9 (bodyOf Tryd.f54) n i s
@[simp] theorem H_ref02_digit_eq (n i : Nat) (s : St) : H_ref02_digit n i s = L_ref02_digit i n (headOf (an_ref02_digit.loops.lookup i) s) := rfl
noncomputable def R_ref02_digit (i : Nat) (s : St) : Option (E × St) := stepL Tryd.prog c_ref02_digit an_ref02_digit 9 (bodyOf Tryd.f54) i s
theorem lok_ref02_digit : okLoops (bodyOf Tryd.f54) = true := by kernel_rfl
noncomputable def F_ref02_digit (ds : List D) : Option D := runF Tryd.prog c_ref02_digit an_ref02_digit 9 (bodyOf Tryd.f54) [.tmp 2] ds
theorem F_ref02_digit_eq (ds : List D) : F_ref02_digit ds = runG Tryd.prog c_ref02_digit (H_ref02_digit bigL) an_ref02_digit 9 (bodyOf Tryd.f54) [.tmp 2] ds := runG_eq lok_ref02_digit _ ds
theorem C_ref02_digit (ds : List D) (r : D) (h : F_ref02_digit ds = some r) : Contract Tryd.prog gl 54 ds r := contract_of mix Tryd.func54 rfl (by kernel_rfl) (by kernel_rfl) (by decide) (call := c_ref02_digit) ⟨callOf_ok cl_ref02_digit trivial, callOfE_ok ce_ref02_digit trivial⟩ h
-- sawmill/sawmillref02.IsName: loops [4]; state: params 0..0, then [2, 3, 4]
attribute [simp] Tryd.f43
noncomputable def an_ref02_IsName : Ann := ⟨[0, 2, 3, 4], [12, 16, 47], [], [(4, [0, 3])], [(0, []), (1, [0, 3])], some [2], [], [], [], []⟩
@[simp] theorem an_ref02_IsName_draws : an_ref02_IsName.draws = [] := rfl
@[simp] theorem an_ref02_IsName_exits : an_ref02_IsName.exits = [(0, []), (1, [0, 3])] := rfl
@[simp] theorem an_ref02_IsName_rets : an_ref02_IsName.rets = some [2] := rfl
@[simp] theorem an_ref02_IsName_keep : an_ref02_IsName.keep = [0, 2, 3, 4] := rfl
@[simp] theorem an_ref02_IsName_cond : an_ref02_IsName.cond = [12, 16, 47] := rfl
@[simp] theorem an_ref02_IsName_rows : an_ref02_IsName.rows = [] := rfl
@[simp] theorem an_ref02_IsName_loops : an_ref02_IsName.loops = [(4, [0, 3])] := rfl
@[simp] theorem an_ref02_IsName_ecalls : an_ref02_IsName.ecalls = [] := rfl
@[simp] theorem an_ref02_IsName_crows : an_ref02_IsName.crows = [] := rfl
@[simp] theorem an_ref02_IsName_tails : an_ref02_IsName.tails = [] := rfl
@[simp] noncomputable def cl_ref02_IsName : List (Nat × (List D → Option D)) := [(54, F_ref02_digit)]
@[simp] noncomputable def ce_ref02_IsName : List (Nat × (List (Nat × O) → List D → Option (D × List (Nat × O)))) := []
noncomputable def c_ref02_IsName : CT := ⟨callOf (cl_ref02_IsName ), callOfE ce_ref02_IsName, gl⟩
@[simp] theorem c_ref02_IsName_p (f : FuncId) (ds : List D) : c_ref02_IsName.p f ds = callOf (cl_ref02_IsName ) f ds := Eq.trans rfl rfl
@[simp] theorem c_ref02_IsName_e (f : FuncId) (hs : List (Nat × O)) (ds : List D) : c_ref02_IsName.e f hs ds = callOfE ce_ref02_IsName f hs ds := Eq.trans rfl rfl
@[simp] theorem c_ref02_IsName_g (g : Nat) : c_ref02_IsName.g g = gl g := Eq.trans rfl rfl
noncomputable def L_ref02_IsName (i n : Nat) (s : St) : Option (E × St) := atN Tryd.prog c_ref02_IsName an_ref02_IsName 48 (bodyOf Tryd.f43) i n s
noncomputable def H_ref02_IsName (n i : Nat) (s : St) : Option (E × St) := atH Tryd.prog c_ref02_IsName an_ref02_IsName 48 (bodyOf Tryd.f43) n i s
@[simp] theorem H_ref02_IsName_eq (n i : Nat) (s : St) : H_ref02_IsName n i s = L_ref02_IsName i n (headOf (an_ref02_IsName.loops.lookup i) s) := rfl
noncomputable def R_ref02_IsName (i : Nat) (s : St) : Option (E × St) := stepL Tryd.prog c_ref02_IsName an_ref02_IsName 48 (bodyOf Tryd.f43) i s
theorem lok_ref02_IsName : okLoops (bodyOf Tryd.f43) = true := by kernel_rfl
theorem L_ref02_IsName_zero (i : Nat) (s : St) : L_ref02_IsName i 0 s = none := rfl
theorem L_ref02_IsName_succ (i n : Nat) (s : St) : L_ref02_IsName i (n + 1) s = andThen (R_ref02_IsName i s) (H_ref02_IsName n i) := atN_succ lok_ref02_IsName i n s
theorem R_ref02_IsName_eq (i : Nat) (s : St) : R_ref02_IsName i s = runS Tryd.prog c_ref02_IsName (H_ref02_IsName bigL) an_ref02_IsName 48 (loopAt (bodyOf Tryd.f43) i) s := rfl
noncomputable def F_ref02_IsName (ds : List D) : Option D := runF Tryd.prog c_ref02_IsName an_ref02_IsName 48 (bodyOf Tryd.f43) [.tmp 2] ds
theorem F_ref02_IsName_eq (ds : List D) : F_ref02_IsName ds = runG Tryd.prog c_ref02_IsName (H_ref02_IsName bigL) an_ref02_IsName 48 (bodyOf Tryd.f43) [.tmp 2] ds := runG_eq lok_ref02_IsName _ ds
theorem C_ref02_IsName (ds : List D) (r : D) (h : F_ref02_IsName ds = some r) : Contract Tryd.prog gl 43 ds r := contract_of mix Tryd.func43 rfl (by kernel_rfl) (by kernel_rfl) (by decide) (call := c_ref02_IsName) ⟨callOf_ok cl_ref02_IsName ⟨C_ref02_digit, trivial⟩, callOfE_ok ce_ref02_IsName trivial⟩ h
-- sawmill/sawmillref37.from: loops []; state: params 0..2, then [6]
attribute [simp] Tryd.f44
noncomputable def an_ref37_from : Ann := ⟨[6], [], [], [], [], some [6], [], [], [], []⟩
@[simp] theorem an_ref37_from_draws : an_ref37_from.draws = [] := rfl
@[simp] theorem an_ref37_from_exits : an_ref37_from.exits = [] := rfl
@[simp] theorem an_ref37_from_rets : an_ref37_from.rets = some [6] := rfl
@[simp] theorem an_ref37_from_keep : an_ref37_from.keep = [6] := rfl
@[simp] theorem an_ref37_from_cond : an_ref37_from.cond = [] := rfl
@[simp] theorem an_ref37_from_rows : an_ref37_from.rows = [] := rfl
@[simp] theorem an_ref37_from_loops : an_ref37_from.loops = [] := rfl
@[simp] theorem an_ref37_from_ecalls : an_ref37_from.ecalls = [] := rfl
@[simp] theorem an_ref37_from_crows : an_ref37_from.crows = [] := rfl
@[simp] theorem an_ref37_from_tails : an_ref37_from.tails = [] := rfl
@[simp] noncomputable def cl_ref37_from : List (Nat × (List D → Option D)) := []
@[simp] noncomputable def ce_ref37_from : List (Nat × (List (Nat × O) → List D → Option (D × List (Nat × O)))) := []
noncomputable def c_ref37_from : CT := ⟨callOf (cl_ref37_from ), callOfE ce_ref37_from, gl⟩
@[simp] theorem c_ref37_from_p (f : FuncId) (ds : List D) : c_ref37_from.p f ds = callOf (cl_ref37_from ) f ds := Eq.trans rfl rfl
@[simp] theorem c_ref37_from_e (f : FuncId) (hs : List (Nat × O)) (ds : List D) : c_ref37_from.e f hs ds = callOfE ce_ref37_from f hs ds := Eq.trans rfl rfl
@[simp] theorem c_ref37_from_g (g : Nat) : c_ref37_from.g g = gl g := Eq.trans rfl rfl
noncomputable def L_ref37_from (i n : Nat) (s : St) : Option (E × St) := atN Tryd.prog c_ref37_from an_ref37_from 15 (bodyOf Tryd.f44) i n s
noncomputable def H_ref37_from (n i : Nat) (s : St) : Option (E × St) := atH Tryd.prog c_ref37_from an_ref37_from 15 (bodyOf Tryd.f44) n i s
@[simp] theorem H_ref37_from_eq (n i : Nat) (s : St) : H_ref37_from n i s = L_ref37_from i n (headOf (an_ref37_from.loops.lookup i) s) := rfl
noncomputable def R_ref37_from (i : Nat) (s : St) : Option (E × St) := stepL Tryd.prog c_ref37_from an_ref37_from 15 (bodyOf Tryd.f44) i s
theorem lok_ref37_from : okLoops (bodyOf Tryd.f44) = true := by kernel_rfl
noncomputable def F_ref37_from (ds : List D) : Option D := runF Tryd.prog c_ref37_from an_ref37_from 15 (bodyOf Tryd.f44) [.tmp 6] ds
theorem F_ref37_from_eq (ds : List D) : F_ref37_from ds = runG Tryd.prog c_ref37_from (H_ref37_from bigL) an_ref37_from 15 (bodyOf Tryd.f44) [.tmp 6] ds := runG_eq lok_ref37_from _ ds
theorem C_ref37_from (ds : List D) (r : D) (h : F_ref37_from ds = some r) : Contract Tryd.prog gl 44 ds r := contract_of mix Tryd.func44 rfl (by kernel_rfl) (by kernel_rfl) (by decide) (call := c_ref37_from) ⟨callOf_ok cl_ref37_from trivial, callOfE_ok ce_ref37_from trivial⟩ h
-- sawmill/sawmillref37.Check: loops [10]; state: params 0..0, then [1, 2, 3, 4]
attribute [simp] Tryd.f26
noncomputable def an_ref37_Check : Ann := ⟨[1, 2, 3, 4], [8, 12, 16, 20, 25, 64], [], [(10, [1, 3])], [(0, []), (1, [1, 3])], some [2], [], [], [], []⟩
@[simp] theorem an_ref37_Check_draws : an_ref37_Check.draws = [] := rfl
@[simp] theorem an_ref37_Check_exits : an_ref37_Check.exits = [(0, []), (1, [1, 3])] := rfl
@[simp] theorem an_ref37_Check_rets : an_ref37_Check.rets = some [2] := rfl
@[simp] theorem an_ref37_Check_keep : an_ref37_Check.keep = [1, 2, 3, 4] := rfl
@[simp] theorem an_ref37_Check_cond : an_ref37_Check.cond = [8, 12, 16, 20, 25, 64] := rfl
@[simp] theorem an_ref37_Check_rows : an_ref37_Check.rows = [] := rfl
@[simp] theorem an_ref37_Check_loops : an_ref37_Check.loops = [(10, [1, 3])] := rfl
@[simp] theorem an_ref37_Check_ecalls : an_ref37_Check.ecalls = [] := rfl
@[simp] theorem an_ref37_Check_crows : an_ref37_Check.crows = [] := rfl
@[simp] theorem an_ref37_Check_tails : an_ref37_Check.tails = [] := rfl
@[simp] noncomputable def cl_ref37_Check : List (Nat × (List D → Option D)) := [(43, F_ref02_IsName), (44, F_ref37_from)]
@[simp] noncomputable def ce_ref37_Check : List (Nat × (List (Nat × O) → List D → Option (D × List (Nat × O)))) := []
noncomputable def c_ref37_Check : CT := ⟨callOf (cl_ref37_Check ), callOfE ce_ref37_Check, gl⟩
@[simp] theorem c_ref37_Check_p (f : FuncId) (ds : List D) : c_ref37_Check.p f ds = callOf (cl_ref37_Check ) f ds := Eq.trans rfl rfl
@[simp] theorem c_ref37_Check_e (f : FuncId) (hs : List (Nat × O)) (ds : List D) : c_ref37_Check.e f hs ds = callOfE ce_ref37_Check f hs ds := Eq.trans rfl rfl
@[simp] theorem c_ref37_Check_g (g : Nat) : c_ref37_Check.g g = gl g := Eq.trans rfl rfl
noncomputable def L_ref37_Check (i n : Nat) (s : St) : Option (E × St) := atN Tryd.prog c_ref37_Check an_ref37_Check 65 (bodyOf Tryd.f26) i n s
noncomputable def H_ref37_Check (n i : Nat) (s : St) : Option (E × St) := atH Tryd.prog c_ref37_Check an_ref37_Check 65 (bodyOf Tryd.f26) n i s
@[simp] theorem H_ref37_Check_eq (n i : Nat) (s : St) : H_ref37_Check n i s = L_ref37_Check i n (headOf (an_ref37_Check.loops.lookup i) s) := rfl
noncomputable def R_ref37_Check (i : Nat) (s : St) : Option (E × St) := stepL Tryd.prog c_ref37_Check an_ref37_Check 65 (bodyOf Tryd.f26) i s
theorem lok_ref37_Check : okLoops (bodyOf Tryd.f26) = true := by kernel_rfl
theorem L_ref37_Check_zero (i : Nat) (s : St) : L_ref37_Check i 0 s = none := rfl
theorem L_ref37_Check_succ (i n : Nat) (s : St) : L_ref37_Check i (n + 1) s = andThen (R_ref37_Check i s) (H_ref37_Check n i) := atN_succ lok_ref37_Check i n s
theorem R_ref37_Check_eq (i : Nat) (s : St) : R_ref37_Check i s = runS Tryd.prog c_ref37_Check (H_ref37_Check bigL) an_ref37_Check 65 (loopAt (bodyOf Tryd.f26) i) s := rfl
noncomputable def F_ref37_Check (ds : List D) : Option D := runF Tryd.prog c_ref37_Check an_ref37_Check 65 (bodyOf Tryd.f26) [.tmp 2] ds
theorem F_ref37_Check_eq (ds : List D) : F_ref37_Check ds = runG Tryd.prog c_ref37_Check (H_ref37_Check bigL) an_ref37_Check 65 (bodyOf Tryd.f26) [.tmp 2] ds := runG_eq lok_ref37_Check _ ds
theorem C_ref37_Check (ds : List D) (r : D) (h : F_ref37_Check ds = some r) : Contract Tryd.prog gl 26 ds r := contract_of mix Tryd.func26 rfl (by kernel_rfl) (by kernel_rfl) (by decide) (call := c_ref37_Check) ⟨callOf_ok cl_ref37_Check ⟨C_ref02_IsName, C_ref37_from, trivial⟩, callOfE_ok ce_ref37_Check trivial⟩ h
-- sawmill/sawmillref34.from: loops []; state: params 0..2, then [6]
attribute [simp] Tryd.f55
noncomputable def an_ref34_from : Ann := ⟨[6], [], [], [], [], some [6], [], [], [], []⟩
@[simp] theorem an_ref34_from_draws : an_ref34_from.draws = [] := rfl
@[simp] theorem an_ref34_from_exits : an_ref34_from.exits = [] := rfl
@[simp] theorem an_ref34_from_rets : an_ref34_from.rets = some [6] := rfl
@[simp] theorem an_ref34_from_keep : an_ref34_from.keep = [6] := rfl
@[simp] theorem an_ref34_from_cond : an_ref34_from.cond = [] := rfl
@[simp] theorem an_ref34_from_rows : an_ref34_from.rows = [] := rfl
@[simp] theorem an_ref34_from_loops : an_ref34_from.loops = [] := rfl
@[simp] theorem an_ref34_from_ecalls : an_ref34_from.ecalls = [] := rfl
@[simp] theorem an_ref34_from_crows : an_ref34_from.crows = [] := rfl
@[simp] theorem an_ref34_from_tails : an_ref34_from.tails = [] := rfl
@[simp] noncomputable def cl_ref34_from : List (Nat × (List D → Option D)) := []
@[simp] noncomputable def ce_ref34_from : List (Nat × (List (Nat × O) → List D → Option (D × List (Nat × O)))) := []
noncomputable def c_ref34_from : CT := ⟨callOf (cl_ref34_from ), callOfE ce_ref34_from, gl⟩
@[simp] theorem c_ref34_from_p (f : FuncId) (ds : List D) : c_ref34_from.p f ds = callOf (cl_ref34_from ) f ds := Eq.trans rfl rfl
@[simp] theorem c_ref34_from_e (f : FuncId) (hs : List (Nat × O)) (ds : List D) : c_ref34_from.e f hs ds = callOfE ce_ref34_from f hs ds := Eq.trans rfl rfl
@[simp] theorem c_ref34_from_g (g : Nat) : c_ref34_from.g g = gl g := Eq.trans rfl rfl
noncomputable def L_ref34_from (i n : Nat) (s : St) : Option (E × St) := atN Tryd.prog c_ref34_from an_ref34_from 15 (bodyOf Tryd.f55) i n s
noncomputable def H_ref34_from (n i : Nat) (s : St) : Option (E × St) := atH Tryd.prog c_ref34_from an_ref34_from 15 (bodyOf Tryd.f55) n i s
@[simp] theorem H_ref34_from_eq (n i : Nat) (s : St) : H_ref34_from n i s = L_ref34_from i n (headOf (an_ref34_from.loops.lookup i) s) := rfl
noncomputable def R_ref34_from (i : Nat) (s : St) : Option (E × St) := stepL Tryd.prog c_ref34_from an_ref34_from 15 (bodyOf Tryd.f55) i s
theorem lok_ref34_from : okLoops (bodyOf Tryd.f55) = true := by kernel_rfl
noncomputable def F_ref34_from (ds : List D) : Option D := runF Tryd.prog c_ref34_from an_ref34_from 15 (bodyOf Tryd.f55) [.tmp 6] ds
theorem F_ref34_from_eq (ds : List D) : F_ref34_from ds = runG Tryd.prog c_ref34_from (H_ref34_from bigL) an_ref34_from 15 (bodyOf Tryd.f55) [.tmp 6] ds := runG_eq lok_ref34_from _ ds
theorem C_ref34_from (ds : List D) (r : D) (h : F_ref34_from ds = some r) : Contract Tryd.prog gl 55 ds r := contract_of mix Tryd.func55 rfl (by kernel_rfl) (by kernel_rfl) (by decide) (call := c_ref34_from) ⟨callOf_ok cl_ref34_from trivial, callOfE_ok ce_ref34_from trivial⟩ h
-- sawmill/sawmillref34.valid: loops []; state: params 0..0, then [1, 2]
attribute [simp] Tryd.f45
noncomputable def an_ref34_valid : Ann := ⟨[1, 2], [40, 50], [], [], [], some [2], [], [], [], []⟩
@[simp] theorem an_ref34_valid_draws : an_ref34_valid.draws = [] := rfl
@[simp] theorem an_ref34_valid_exits : an_ref34_valid.exits = [] := rfl
@[simp] theorem an_ref34_valid_rets : an_ref34_valid.rets = some [2] := rfl
@[simp] theorem an_ref34_valid_keep : an_ref34_valid.keep = [1, 2] := rfl
@[simp] theorem an_ref34_valid_cond : an_ref34_valid.cond = [40, 50] := rfl
@[simp] theorem an_ref34_valid_rows : an_ref34_valid.rows = [] := rfl
@[simp] theorem an_ref34_valid_loops : an_ref34_valid.loops = [] := rfl
@[simp] theorem an_ref34_valid_ecalls : an_ref34_valid.ecalls = [] := rfl
@[simp] theorem an_ref34_valid_crows : an_ref34_valid.crows = [] := rfl
@[simp] theorem an_ref34_valid_tails : an_ref34_valid.tails = [] := rfl
@[simp] noncomputable def cl_ref34_valid : List (Nat × (List D → Option D)) := [(55, F_ref34_from)]
@[simp] noncomputable def ce_ref34_valid : List (Nat × (List (Nat × O) → List D → Option (D × List (Nat × O)))) := []
noncomputable def c_ref34_valid : CT := ⟨callOf (cl_ref34_valid ), callOfE ce_ref34_valid, gl⟩
@[simp] theorem c_ref34_valid_p (f : FuncId) (ds : List D) : c_ref34_valid.p f ds = callOf (cl_ref34_valid ) f ds := Eq.trans rfl rfl
@[simp] theorem c_ref34_valid_e (f : FuncId) (hs : List (Nat × O)) (ds : List D) : c_ref34_valid.e f hs ds = callOfE ce_ref34_valid f hs ds := Eq.trans rfl rfl
@[simp] theorem c_ref34_valid_g (g : Nat) : c_ref34_valid.g g = gl g := Eq.trans rfl rfl
noncomputable def L_ref34_valid (i n : Nat) (s : St) : Option (E × St) := atN Tryd.prog c_ref34_valid an_ref34_valid 69 (bodyOf Tryd.f45) i n s
noncomputable def H_ref34_valid (n i : Nat) (s : St) : Option (E × St) := atH Tryd.prog c_ref34_valid an_ref34_valid 69 (bodyOf Tryd.f45) n i s
@[simp] theorem H_ref34_valid_eq (n i : Nat) (s : St) : H_ref34_valid n i s = L_ref34_valid i n (headOf (an_ref34_valid.loops.lookup i) s) := rfl
noncomputable def R_ref34_valid (i : Nat) (s : St) : Option (E × St) := stepL Tryd.prog c_ref34_valid an_ref34_valid 69 (bodyOf Tryd.f45) i s
theorem lok_ref34_valid : okLoops (bodyOf Tryd.f45) = true := by kernel_rfl
noncomputable def F_ref34_valid (ds : List D) : Option D := runF Tryd.prog c_ref34_valid an_ref34_valid 69 (bodyOf Tryd.f45) [.tmp 2] ds
theorem F_ref34_valid_eq (ds : List D) : F_ref34_valid ds = runG Tryd.prog c_ref34_valid (H_ref34_valid bigL) an_ref34_valid 69 (bodyOf Tryd.f45) [.tmp 2] ds := runG_eq lok_ref34_valid _ ds
theorem C_ref34_valid (ds : List D) (r : D) (h : F_ref34_valid ds = some r) : Contract Tryd.prog gl 45 ds r := contract_of mix Tryd.func45 rfl (by kernel_rfl) (by kernel_rfl) (by decide) (call := c_ref34_valid) ⟨callOf_ok cl_ref34_valid ⟨C_ref34_from, trivial⟩, callOfE_ok ce_ref34_valid trivial⟩ h
-- sawmill/sawmillref34.Check: loops [4, 9]; state: params 0..0, then [2, 3, 4]
attribute [simp] Tryd.f27
noncomputable def an_ref34_Check : Ann := ⟨[0, 2, 3, 4], [7, 11, 20, 23, 36, 42], [], [(4, [0, 3]), (9, [0, 3, 4])], [(0, []), (1, [0, 3]), (2, [0, 3]), (3, [0, 3, 4])], some [2], [(11, 10)], [], [], []⟩
@[simp] theorem an_ref34_Check_draws : an_ref34_Check.draws = [(11, 10)] := rfl
@[simp] theorem an_ref34_Check_exits : an_ref34_Check.exits = [(0, []), (1, [0, 3]), (2, [0, 3]), (3, [0, 3, 4])] := rfl
@[simp] theorem an_ref34_Check_rets : an_ref34_Check.rets = some [2] := rfl
@[simp] theorem an_ref34_Check_keep : an_ref34_Check.keep = [0, 2, 3, 4] := rfl
@[simp] theorem an_ref34_Check_cond : an_ref34_Check.cond = [7, 11, 20, 23, 36, 42] := rfl
@[simp] theorem an_ref34_Check_rows : an_ref34_Check.rows = [] := rfl
@[simp] theorem an_ref34_Check_loops : an_ref34_Check.loops = [(4, [0, 3]), (9, [0, 3, 4])] := rfl
@[simp] theorem an_ref34_Check_ecalls : an_ref34_Check.ecalls = [] := rfl
@[simp] theorem an_ref34_Check_crows : an_ref34_Check.crows = [] := rfl
@[simp] theorem an_ref34_Check_tails : an_ref34_Check.tails = [] := rfl
@[simp] noncomputable def cl_ref34_Check : List (Nat × (List D → Option D)) := [(43, F_ref02_IsName), (45, F_ref34_valid)]
@[simp] noncomputable def ce_ref34_Check : List (Nat × (List (Nat × O) → List D → Option (D × List (Nat × O)))) := []
noncomputable def c_ref34_Check : CT := ⟨callOf (cl_ref34_Check ), callOfE ce_ref34_Check, gl⟩
@[simp] theorem c_ref34_Check_p (f : FuncId) (ds : List D) : c_ref34_Check.p f ds = callOf (cl_ref34_Check ) f ds := Eq.trans rfl rfl
@[simp] theorem c_ref34_Check_e (f : FuncId) (hs : List (Nat × O)) (ds : List D) : c_ref34_Check.e f hs ds = callOfE ce_ref34_Check f hs ds := Eq.trans rfl rfl
@[simp] theorem c_ref34_Check_g (g : Nat) : c_ref34_Check.g g = gl g := Eq.trans rfl rfl
noncomputable def L_ref34_Check (i n : Nat) (s : St) : Option (E × St) := atN Tryd.prog c_ref34_Check an_ref34_Check 43 (bodyOf Tryd.f27) i n s
noncomputable def H_ref34_Check (n i : Nat) (s : St) : Option (E × St) := atH Tryd.prog c_ref34_Check an_ref34_Check 43 (bodyOf Tryd.f27) n i s
@[simp] theorem H_ref34_Check_eq (n i : Nat) (s : St) : H_ref34_Check n i s = L_ref34_Check i n (headOf (an_ref34_Check.loops.lookup i) s) := rfl
noncomputable def R_ref34_Check (i : Nat) (s : St) : Option (E × St) := stepL Tryd.prog c_ref34_Check an_ref34_Check 43 (bodyOf Tryd.f27) i s
theorem lok_ref34_Check : okLoops (bodyOf Tryd.f27) = true := by kernel_rfl
theorem L_ref34_Check_zero (i : Nat) (s : St) : L_ref34_Check i 0 s = none := rfl
theorem L_ref34_Check_succ (i n : Nat) (s : St) : L_ref34_Check i (n + 1) s = andThen (R_ref34_Check i s) (H_ref34_Check n i) := atN_succ lok_ref34_Check i n s
theorem R_ref34_Check_eq (i : Nat) (s : St) : R_ref34_Check i s = runS Tryd.prog c_ref34_Check (H_ref34_Check bigL) an_ref34_Check 43 (loopAt (bodyOf Tryd.f27) i) s := rfl
noncomputable def F_ref34_Check (ds : List D) : Option D := runF Tryd.prog c_ref34_Check an_ref34_Check 43 (bodyOf Tryd.f27) [.tmp 2] ds
theorem F_ref34_Check_eq (ds : List D) : F_ref34_Check ds = runG Tryd.prog c_ref34_Check (H_ref34_Check bigL) an_ref34_Check 43 (bodyOf Tryd.f27) [.tmp 2] ds := runG_eq lok_ref34_Check _ ds
theorem C_ref34_Check (ds : List D) (r : D) (h : F_ref34_Check ds = some r) : Contract Tryd.prog gl 27 ds r := contract_of mix Tryd.func27 rfl (by kernel_rfl) (by kernel_rfl) (by decide) (call := c_ref34_Check) ⟨callOf_ok cl_ref34_Check ⟨C_ref02_IsName, C_ref34_valid, trivial⟩, callOfE_ok ce_ref34_Check trivial⟩ h
-- sawmill/sawmillref36.Check: loops []; state: params 0..0, then [1, 2]
attribute [simp] Tryd.f28
noncomputable def an_ref36_Check : Ann := ⟨[1, 2], [20, 28], [], [], [], some [2], [], [], [], []⟩
@[simp] theorem an_ref36_Check_draws : an_ref36_Check.draws = [] := rfl
@[simp] theorem an_ref36_Check_exits : an_ref36_Check.exits = [] := rfl
@[simp] theorem an_ref36_Check_rets : an_ref36_Check.rets = some [2] := rfl
@[simp] theorem an_ref36_Check_keep : an_ref36_Check.keep = [1, 2] := rfl
@[simp] theorem an_ref36_Check_cond : an_ref36_Check.cond = [20, 28] := rfl
@[simp] theorem an_ref36_Check_rows : an_ref36_Check.rows = [] := rfl
@[simp] theorem an_ref36_Check_loops : an_ref36_Check.loops = [] := rfl
@[simp] theorem an_ref36_Check_ecalls : an_ref36_Check.ecalls = [] := rfl
@[simp] theorem an_ref36_Check_crows : an_ref36_Check.crows = [] := rfl
@[simp] theorem an_ref36_Check_tails : an_ref36_Check.tails = [] := rfl
@[simp] noncomputable def cl_ref36_Check : List (Nat × (List D → Option D)) := []
@[simp] noncomputable def ce_ref36_Check : List (Nat × (List (Nat × O) → List D → Option (D × List (Nat × O)))) := []
noncomputable def c_ref36_Check : CT := ⟨callOf (cl_ref36_Check ), callOfE ce_ref36_Check, gl⟩
@[simp] theorem c_ref36_Check_p (f : FuncId) (ds : List D) : c_ref36_Check.p f ds = callOf (cl_ref36_Check ) f ds := Eq.trans rfl rfl
@[simp] theorem c_ref36_Check_e (f : FuncId) (hs : List (Nat × O)) (ds : List D) : c_ref36_Check.e f hs ds = callOfE ce_ref36_Check f hs ds := Eq.trans rfl rfl
@[simp] theorem c_ref36_Check_g (g : Nat) : c_ref36_Check.g g = gl g := Eq.trans rfl rfl
noncomputable def L_ref36_Check (i n : Nat) (s : St) : Option (E × St) := atN Tryd.prog c_ref36_Check an_ref36_Check 29 (bodyOf Tryd.f28) i n s
noncomputable def H_ref36_Check (n i : Nat) (s : St) : Option (E × St) := atH Tryd.prog c_ref36_Check an_ref36_Check 29 (bodyOf Tryd.f28) n i s
@[simp] theorem H_ref36_Check_eq (n i : Nat) (s : St) : H_ref36_Check n i s = L_ref36_Check i n (headOf (an_ref36_Check.loops.lookup i) s) := rfl
noncomputable def R_ref36_Check (i : Nat) (s : St) : Option (E × St) := stepL Tryd.prog c_ref36_Check an_ref36_Check 29 (bodyOf Tryd.f28) i s
theorem lok_ref36_Check : okLoops (bodyOf Tryd.f28) = true := by kernel_rfl
noncomputable def F_ref36_Check (ds : List D) : Option D := runF Tryd.prog c_ref36_Check an_ref36_Check 29 (bodyOf Tryd.f28) [.tmp 2] ds
theorem F_ref36_Check_eq (ds : List D) : F_ref36_Check ds = runG Tryd.prog c_ref36_Check (H_ref36_Check bigL) an_ref36_Check 29 (bodyOf Tryd.f28) [.tmp 2] ds := runG_eq lok_ref36_Check _ ds
theorem C_ref36_Check (ds : List D) (r : D) (h : F_ref36_Check ds = some r) : Contract Tryd.prog gl 28 ds r := contract_of mix Tryd.func28 rfl (by kernel_rfl) (by kernel_rfl) (by decide) (call := c_ref36_Check) ⟨callOf_ok cl_ref36_Check trivial, callOfE_ok ce_ref36_Check trivial⟩ h
end Go.Proofs.YthgamgdcjgbmnaaDoor
