/-
  Printed by gen.py for this seat: facts about the types that the laws reach; for each function its annotation (what is kept behind a region, which rows are a variable's own, what is alive at the head of a loop), its abstract run, and that the run is its contract.
-/
import Derived.Test.YtdefohgkniglpaaGreatDoorAbs2
import Derived.Test.YtdefohgkniglpaaGreatDoorRows
import Derived.Test.YtdefohgkniglpaaGreatDoorLibC
namespace Go.Proofs.YtdefohgkniglpaaGreatDoor
open Go Go.Abs
set_option maxRecDepth 100000
set_option linter.unusedSimpArgs false
set_option linter.unusedVariables false
theorem mix : Tryz.prog.follows .mixedOrders = true := by kernel_rfl
theorem laid : laidOutB Tryz.prog = true := by kernel_rfl
-- 0 ()
attribute [simp] Tryz.underlying0
@[simp] theorem sz0 : szT Tryz.prog 0 = some 1 := by kernel_rfl
@[simp] theorem co0 : Tryz.prog.cellsOf 0 = 1 := by kernel_rfl
@[simp] theorem ag0 : aggT Tryz.prog 0 = some false := by kernel_rfl
-- 1 func()
attribute [simp] Tryz.underlying1
@[simp] theorem sz1 : szT Tryz.prog 1 = some 1 := by kernel_rfl
@[simp] theorem co1 : Tryz.prog.cellsOf 1 = 1 := by kernel_rfl
@[simp] theorem ag1 : aggT Tryz.prog 1 = some false := by kernel_rfl
@[simp] theorem zr1 : zeroD Tryz.prog 1 = some [.x .nilFunc] := by kernel_rfl
-- 2 int64
attribute [simp] Tryz.underlying2
@[simp] theorem sz2 : szT Tryz.prog 2 = some 1 := by kernel_rfl
@[simp] theorem co2 : Tryz.prog.cellsOf 2 = 1 := by kernel_rfl
@[simp] theorem ag2 : aggT Tryz.prog 2 = some false := by kernel_rfl
@[simp] theorem zr2 : zeroD Tryz.prog 2 = some [.x (.int .i64 0)] := by kernel_rfl
-- 3 int
attribute [simp] Tryz.underlying3
@[simp] theorem sz3 : szT Tryz.prog 3 = some 1 := by kernel_rfl
@[simp] theorem co3 : Tryz.prog.cellsOf 3 = 1 := by kernel_rfl
@[simp] theorem ag3 : aggT Tryz.prog 3 = some false := by kernel_rfl
@[simp] theorem zr3 : zeroD Tryz.prog 3 = some [.x (.int .i64 0)] := by kernel_rfl
-- 4 bool
attribute [simp] Tryz.underlying4
@[simp] theorem sz4 : szT Tryz.prog 4 = some 1 := by kernel_rfl
@[simp] theorem co4 : Tryz.prog.cellsOf 4 = 1 := by kernel_rfl
@[simp] theorem ag4 : aggT Tryz.prog 4 = some false := by kernel_rfl
@[simp] theorem zr4 : zeroD Tryz.prog 4 = some [.x (.bool false)] := by kernel_rfl
-- 5 uint8
attribute [simp] Tryz.underlying5
@[simp] theorem sz5 : szT Tryz.prog 5 = some 1 := by kernel_rfl
@[simp] theorem co5 : Tryz.prog.cellsOf 5 = 1 := by kernel_rfl
@[simp] theorem ag5 : aggT Tryz.prog 5 = some false := by kernel_rfl
@[simp] theorem zr5 : zeroD Tryz.prog 5 = some [.x (.int .u8 0)] := by kernel_rfl
-- 8 runtime.boundsError
attribute [simp] Tryz.underlying8
@[simp] theorem sz8 : szT Tryz.prog 8 = some 4 := by kernel_rfl
@[simp] theorem co8 : Tryz.prog.cellsOf 8 = 4 := by kernel_rfl
@[simp] theorem ag8 : aggT Tryz.prog 8 = some true := by kernel_rfl
@[simp] theorem zr8 : zeroD Tryz.prog 8 = some [.x (.int .i64 0), .x (.int .i64 0), .x (.bool false), .x (.int .u8 0)] := by kernel_rfl
@[simp] theorem bt8 : buildT Tryz.prog 8 = some ([(0, 1), (1, 1), (2, 1), (3, 1)], [.x (.int .i64 0), .x (.int .i64 0), .x (.bool false), .x (.int .u8 0)]) := by kernel_rfl
@[simp] theorem st8 : Tryz.prog.stoodInHeld 8 = false := by kernel_rfl
@[simp] theorem eg8 : Tryz.prog.eqGuardType Tryz.prog.depth 8 = false := by kernel_rfl
-- 9 string
attribute [simp] Tryz.underlying9
@[simp] theorem sz9 : szT Tryz.prog 9 = some 1 := by kernel_rfl
@[simp] theorem co9 : Tryz.prog.cellsOf 9 = 1 := by kernel_rfl
@[simp] theorem ag9 : aggT Tryz.prog 9 = some false := by kernel_rfl
@[simp] theorem zr9 : zeroD Tryz.prog 9 = some [.x (.string ByteArray.empty)] := by kernel_rfl
-- 10 runtime.errorString
attribute [simp] Tryz.underlying10
@[simp] theorem sz10 : szT Tryz.prog 10 = some 1 := by kernel_rfl
@[simp] theorem co10 : Tryz.prog.cellsOf 10 = 1 := by kernel_rfl
@[simp] theorem ag10 : aggT Tryz.prog 10 = some false := by kernel_rfl
@[simp] theorem zr10 : zeroD Tryz.prog 10 = some [.x (.string ByteArray.empty)] := by kernel_rfl
-- 11 runtime.plainError
attribute [simp] Tryz.underlying11
@[simp] theorem sz11 : szT Tryz.prog 11 = some 1 := by kernel_rfl
@[simp] theorem co11 : Tryz.prog.cellsOf 11 = 1 := by kernel_rfl
@[simp] theorem ag11 : aggT Tryz.prog 11 = some false := by kernel_rfl
@[simp] theorem zr11 : zeroD Tryz.prog 11 = some [.x (.string ByteArray.empty)] := by kernel_rfl
-- 12 uintptr
attribute [simp] Tryz.underlying12
@[simp] theorem sz12 : szT Tryz.prog 12 = some 1 := by kernel_rfl
@[simp] theorem co12 : Tryz.prog.cellsOf 12 = 1 := by kernel_rfl
@[simp] theorem ag12 : aggT Tryz.prog 12 = some false := by kernel_rfl
@[simp] theorem zr12 : zeroD Tryz.prog 12 = some [.x (.int .u64 0)] := by kernel_rfl
-- 22 []api.Board
attribute [simp] Tryz.underlying22
@[simp] theorem sz22 : szT Tryz.prog 22 = some 1 := by kernel_rfl
@[simp] theorem co22 : Tryz.prog.cellsOf 22 = 1 := by kernel_rfl
@[simp] theorem ag22 : aggT Tryz.prog 22 = some false := by kernel_rfl
@[simp] theorem zr22 : zeroD Tryz.prog 22 = some [.emp] := by kernel_rfl
@[simp] theorem mk22 : mkT Tryz.prog 22 = some (57, 18, 184, [.x (.string ByteArray.empty), .x (.string ByteArray.empty), .x (.string ByteArray.empty), .x (.int .i64 0), .x (.int .i64 0), .x (.int .i64 0), .x (.int .i64 0), .x (.int .i64 0), .x (.int .i64 0), .x (.int .i64 0), .x (.int .i64 0), .emp, .x (.int .i64 0), .x (.int .i64 0), .x (.int .i64 0), .x (.int .i64 0), .x (.bool false), .x (.int .i64 0)]) := by kernel_rfl
@[simp] theorem ap22 : appT Tryz.prog 22 = some (57, 18, 184) := by kernel_rfl
-- 24 api.Species
attribute [simp] Tryz.underlying24
@[simp] theorem sz24 : szT Tryz.prog 24 = some 13 := by kernel_rfl
@[simp] theorem co24 : Tryz.prog.cellsOf 24 = 13 := by kernel_rfl
@[simp] theorem ag24 : aggT Tryz.prog 24 = some true := by kernel_rfl
@[simp] theorem zr24 : zeroD Tryz.prog 24 = some [.x (.string ByteArray.empty), .x (.int .i64 0), .x (.int .i64 0), .x (.int .i64 0), .x (.int .i64 0), .x (.int .i64 0), .x (.int .i64 0), .x (.int .i64 0), .x (.int .i64 0), .x (.int .i64 0), .x (.int .i64 0), .x (.int .i64 0), .x (.int .i64 0)] := by kernel_rfl
@[simp] theorem bt24 : buildT Tryz.prog 24 = some ([(0, 1), (1, 1), (2, 1), (3, 1), (4, 1), (5, 1), (6, 1), (7, 1), (8, 1), (9, 1), (10, 1), (11, 1), (12, 1)], [.x (.string ByteArray.empty), .x (.int .i64 0), .x (.int .i64 0), .x (.int .i64 0), .x (.int .i64 0), .x (.int .i64 0), .x (.int .i64 0), .x (.int .i64 0), .x (.int .i64 0), .x (.int .i64 0), .x (.int .i64 0), .x (.int .i64 0), .x (.int .i64 0)]) := by kernel_rfl
@[simp] theorem st24 : Tryz.prog.stoodInHeld 24 = false := by kernel_rfl
@[simp] theorem eg24 : Tryz.prog.eqGuardType Tryz.prog.depth 24 = false := by kernel_rfl
-- 25 []api.Stage
attribute [simp] Tryz.underlying25
@[simp] theorem sz25 : szT Tryz.prog 25 = some 1 := by kernel_rfl
@[simp] theorem co25 : Tryz.prog.cellsOf 25 = 1 := by kernel_rfl
@[simp] theorem ag25 : aggT Tryz.prog 25 = some false := by kernel_rfl
@[simp] theorem zr25 : zeroD Tryz.prog 25 = some [.emp] := by kernel_rfl
@[simp] theorem mk25 : mkT Tryz.prog 25 = some (85, 4, 32, [.x (.int .i64 0), .x (.int .i64 0), .x (.int .i64 0), .x (.int .i64 0)]) := by kernel_rfl
@[simp] theorem ap25 : appT Tryz.prog 25 = some (85, 4, 32) := by kernel_rfl
-- 27 api.Schedule
attribute [simp] Tryz.underlying27
@[simp] theorem sz27 : szT Tryz.prog 27 = some 3 := by kernel_rfl
@[simp] theorem co27 : Tryz.prog.cellsOf 27 = 3 := by kernel_rfl
@[simp] theorem ag27 : aggT Tryz.prog 27 = some true := by kernel_rfl
@[simp] theorem zr27 : zeroD Tryz.prog 27 = some [.x (.string ByteArray.empty), .x (.int .i64 0), .emp] := by kernel_rfl
@[simp] theorem bt27 : buildT Tryz.prog 27 = some ([(0, 1), (1, 1), (2, 1)], [.x (.string ByteArray.empty), .x (.int .i64 0), .emp]) := by kernel_rfl
@[simp] theorem st27 : Tryz.prog.stoodInHeld 27 = false := by kernel_rfl
@[simp] theorem eg27 : Tryz.prog.eqGuardType Tryz.prog.depth 27 = false := by kernel_rfl
-- 28 []api.KilnFault
attribute [simp] Tryz.underlying28
@[simp] theorem sz28 : szT Tryz.prog 28 = some 1 := by kernel_rfl
@[simp] theorem co28 : Tryz.prog.cellsOf 28 = 1 := by kernel_rfl
@[simp] theorem ag28 : aggT Tryz.prog 28 = some false := by kernel_rfl
@[simp] theorem zr28 : zeroD Tryz.prog 28 = some [.emp] := by kernel_rfl
@[simp] theorem mk28 : mkT Tryz.prog 28 = some (62, 3, 24, [.x (.int .i64 0), .x (.int .i64 0), .x (.int .i64 0)]) := by kernel_rfl
@[simp] theorem ap28 : appT Tryz.prog 28 = some (62, 3, 24) := by kernel_rfl
-- 30 sawmilllaw40.Given
attribute [simp] Tryz.underlying30
@[simp] theorem sz30 : szT Tryz.prog 30 = some 19 := by kernel_rfl
@[simp] theorem co30 : Tryz.prog.cellsOf 30 = 19 := by kernel_rfl
@[simp] theorem ag30 : aggT Tryz.prog 30 = some true := by kernel_rfl
@[simp] theorem zr30 : zeroD Tryz.prog 30 = some [.emp, .x (.string ByteArray.empty), .x (.int .i64 0), .x (.int .i64 0), .x (.int .i64 0), .x (.int .i64 0), .x (.int .i64 0), .x (.int .i64 0), .x (.int .i64 0), .x (.int .i64 0), .x (.int .i64 0), .x (.int .i64 0), .x (.int .i64 0), .x (.int .i64 0), .x (.string ByteArray.empty), .x (.int .i64 0), .emp, .emp, .x (.int .i64 0)] := by kernel_rfl
@[simp] theorem bt30 : buildT Tryz.prog 30 = some ([(0, 1), (1, 13), (14, 3), (17, 1), (18, 1)], [.emp, .x (.string ByteArray.empty), .x (.int .i64 0), .x (.int .i64 0), .x (.int .i64 0), .x (.int .i64 0), .x (.int .i64 0), .x (.int .i64 0), .x (.int .i64 0), .x (.int .i64 0), .x (.int .i64 0), .x (.int .i64 0), .x (.int .i64 0), .x (.int .i64 0), .x (.string ByteArray.empty), .x (.int .i64 0), .emp, .emp, .x (.int .i64 0)]) := by kernel_rfl
@[simp] theorem st30 : Tryz.prog.stoodInHeld 30 = false := by kernel_rfl
@[simp] theorem eg30 : Tryz.prog.eqGuardType Tryz.prog.depth 30 = false := by kernel_rfl
-- 32 api.Climate
attribute [simp] Tryz.underlying32
@[simp] theorem sz32 : szT Tryz.prog 32 = some 2 := by kernel_rfl
@[simp] theorem co32 : Tryz.prog.cellsOf 32 = 2 := by kernel_rfl
@[simp] theorem ag32 : aggT Tryz.prog 32 = some true := by kernel_rfl
@[simp] theorem zr32 : zeroD Tryz.prog 32 = some [.x (.int .i64 0), .x (.int .i64 0)] := by kernel_rfl
@[simp] theorem bt32 : buildT Tryz.prog 32 = some ([(0, 1), (1, 1)], [.x (.int .i64 0), .x (.int .i64 0)]) := by kernel_rfl
@[simp] theorem st32 : Tryz.prog.stoodInHeld 32 = false := by kernel_rfl
@[simp] theorem eg32 : Tryz.prog.eqGuardType Tryz.prog.depth 32 = false := by kernel_rfl
-- 34 charge.Run
attribute [simp] Tryz.underlying34
@[simp] theorem sz34 : szT Tryz.prog 34 = some 6 := by kernel_rfl
@[simp] theorem co34 : Tryz.prog.cellsOf 34 = 6 := by kernel_rfl
@[simp] theorem ag34 : aggT Tryz.prog 34 = some true := by kernel_rfl
@[simp] theorem zr34 : zeroD Tryz.prog 34 = some [.x (.int .i64 0), .x (.int .i64 0), .x (.int .i64 0), .x (.int .i64 0), .x (.int .i64 0), .x (.int .i64 0)] := by kernel_rfl
@[simp] theorem bt34 : buildT Tryz.prog 34 = some ([(0, 1), (1, 1), (2, 1), (3, 2), (5, 1)], [.x (.int .i64 0), .x (.int .i64 0), .x (.int .i64 0), .x (.int .i64 0), .x (.int .i64 0), .x (.int .i64 0)]) := by kernel_rfl
@[simp] theorem st34 : Tryz.prog.stoodInHeld 34 = false := by kernel_rfl
@[simp] theorem eg34 : Tryz.prog.eqGuardType Tryz.prog.depth 34 = false := by kernel_rfl
-- 37 api.Errno
attribute [simp] Tryz.underlying37
@[simp] theorem sz37 : szT Tryz.prog 37 = some 1 := by kernel_rfl
@[simp] theorem co37 : Tryz.prog.cellsOf 37 = 1 := by kernel_rfl
@[simp] theorem ag37 : aggT Tryz.prog 37 = some false := by kernel_rfl
@[simp] theorem zr37 : zeroD Tryz.prog 37 = some [.x (.int .i64 0)] := by kernel_rfl
-- 41 sawmillref40.Run
attribute [simp] Tryz.underlying41
@[simp] theorem sz41 : szT Tryz.prog 41 = some 6 := by kernel_rfl
@[simp] theorem co41 : Tryz.prog.cellsOf 41 = 6 := by kernel_rfl
@[simp] theorem ag41 : aggT Tryz.prog 41 = some true := by kernel_rfl
@[simp] theorem zr41 : zeroD Tryz.prog 41 = some [.x (.int .i64 0), .x (.int .i64 0), .x (.int .i64 0), .x (.int .i64 0), .x (.int .i64 0), .x (.int .i64 0)] := by kernel_rfl
@[simp] theorem bt41 : buildT Tryz.prog 41 = some ([(0, 1), (1, 1), (2, 1), (3, 2), (5, 1)], [.x (.int .i64 0), .x (.int .i64 0), .x (.int .i64 0), .x (.int .i64 0), .x (.int .i64 0), .x (.int .i64 0)]) := by kernel_rfl
@[simp] theorem st41 : Tryz.prog.stoodInHeld 41 = false := by kernel_rfl
@[simp] theorem eg41 : Tryz.prog.eqGuardType Tryz.prog.depth 41 = false := by kernel_rfl
-- 44 ([]api.Board, charge.Run, api.Errno)
attribute [simp] Tryz.underlying44
@[simp] theorem sz44 : szT Tryz.prog 44 = some 1 := by kernel_rfl
@[simp] theorem co44 : Tryz.prog.cellsOf 44 = 1 := by kernel_rfl
@[simp] theorem ag44 : aggT Tryz.prog 44 = some false := by kernel_rfl
-- 46 ([]api.Board, sawmillref40.Run, api.Errno)
attribute [simp] Tryz.underlying46
@[simp] theorem sz46 : szT Tryz.prog 46 = some 1 := by kernel_rfl
@[simp] theorem co46 : Tryz.prog.cellsOf 46 = 1 := by kernel_rfl
@[simp] theorem ag46 : aggT Tryz.prog 46 = some false := by kernel_rfl
-- 50 api.Span
attribute [simp] Tryz.underlying50
@[simp] theorem sz50 : szT Tryz.prog 50 = some 2 := by kernel_rfl
@[simp] theorem co50 : Tryz.prog.cellsOf 50 = 2 := by kernel_rfl
@[simp] theorem ag50 : aggT Tryz.prog 50 = some true := by kernel_rfl
@[simp] theorem zr50 : zeroD Tryz.prog 50 = some [.x (.int .i64 0), .x (.int .i64 0)] := by kernel_rfl
@[simp] theorem bt50 : buildT Tryz.prog 50 = some ([(0, 1), (1, 1)], [.x (.int .i64 0), .x (.int .i64 0)]) := by kernel_rfl
@[simp] theorem st50 : Tryz.prog.stoodInHeld 50 = false := by kernel_rfl
@[simp] theorem eg50 : Tryz.prog.eqGuardType Tryz.prog.depth 50 = false := by kernel_rfl
-- 52 api.Box
attribute [simp] Tryz.underlying52
@[simp] theorem sz52 : szT Tryz.prog 52 = some 6 := by kernel_rfl
@[simp] theorem co52 : Tryz.prog.cellsOf 52 = 6 := by kernel_rfl
@[simp] theorem ag52 : aggT Tryz.prog 52 = some true := by kernel_rfl
@[simp] theorem zr52 : zeroD Tryz.prog 52 = some [.x (.int .i64 0), .x (.int .i64 0), .x (.int .i64 0), .x (.int .i64 0), .x (.int .i64 0), .x (.int .i64 0)] := by kernel_rfl
@[simp] theorem bt52 : buildT Tryz.prog 52 = some ([(0, 2), (2, 2), (4, 2)], [.x (.int .i64 0), .x (.int .i64 0), .x (.int .i64 0), .x (.int .i64 0), .x (.int .i64 0), .x (.int .i64 0)]) := by kernel_rfl
@[simp] theorem st52 : Tryz.prog.stoodInHeld 52 = false := by kernel_rfl
@[simp] theorem eg52 : Tryz.prog.eqGuardType Tryz.prog.depth 52 = false := by kernel_rfl
-- 53 []api.Defect
attribute [simp] Tryz.underlying53
@[simp] theorem sz53 : szT Tryz.prog 53 = some 1 := by kernel_rfl
@[simp] theorem co53 : Tryz.prog.cellsOf 53 = 1 := by kernel_rfl
@[simp] theorem ag53 : aggT Tryz.prog 53 = some false := by kernel_rfl
@[simp] theorem zr53 : zeroD Tryz.prog 53 = some [.emp] := by kernel_rfl
@[simp] theorem mk53 : mkT Tryz.prog 53 = some (115, 7, 56, [.x (.int .i64 0), .x (.int .i64 0), .x (.int .i64 0), .x (.int .i64 0), .x (.int .i64 0), .x (.int .i64 0), .x (.int .i64 0)]) := by kernel_rfl
@[simp] theorem ap53 : appT Tryz.prog 53 = some (115, 7, 56) := by kernel_rfl
-- 55 api.Cell
attribute [simp] Tryz.underlying55
@[simp] theorem sz55 : szT Tryz.prog 55 = some 3 := by kernel_rfl
@[simp] theorem co55 : Tryz.prog.cellsOf 55 = 3 := by kernel_rfl
@[simp] theorem ag55 : aggT Tryz.prog 55 = some true := by kernel_rfl
@[simp] theorem zr55 : zeroD Tryz.prog 55 = some [.x (.int .i64 0), .x (.int .i64 0), .x (.int .i64 0)] := by kernel_rfl
@[simp] theorem bt55 : buildT Tryz.prog 55 = some ([(0, 1), (1, 1), (2, 1)], [.x (.int .i64 0), .x (.int .i64 0), .x (.int .i64 0)]) := by kernel_rfl
@[simp] theorem st55 : Tryz.prog.stoodInHeld 55 = false := by kernel_rfl
@[simp] theorem eg55 : Tryz.prog.eqGuardType Tryz.prog.depth 55 = false := by kernel_rfl
-- 57 api.Board
attribute [simp] Tryz.underlying57
@[simp] theorem sz57 : szT Tryz.prog 57 = some 18 := by kernel_rfl
@[simp] theorem co57 : Tryz.prog.cellsOf 57 = 18 := by kernel_rfl
@[simp] theorem ag57 : aggT Tryz.prog 57 = some true := by kernel_rfl
@[simp] theorem zr57 : zeroD Tryz.prog 57 = some [.x (.string ByteArray.empty), .x (.string ByteArray.empty), .x (.string ByteArray.empty), .x (.int .i64 0), .x (.int .i64 0), .x (.int .i64 0), .x (.int .i64 0), .x (.int .i64 0), .x (.int .i64 0), .x (.int .i64 0), .x (.int .i64 0), .emp, .x (.int .i64 0), .x (.int .i64 0), .x (.int .i64 0), .x (.int .i64 0), .x (.bool false), .x (.int .i64 0)] := by kernel_rfl
@[simp] theorem bt57 : buildT Tryz.prog 57 = some ([(0, 1), (1, 1), (2, 1), (3, 1), (4, 6), (10, 1), (11, 1), (12, 1), (13, 3), (16, 1), (17, 1)], [.x (.string ByteArray.empty), .x (.string ByteArray.empty), .x (.string ByteArray.empty), .x (.int .i64 0), .x (.int .i64 0), .x (.int .i64 0), .x (.int .i64 0), .x (.int .i64 0), .x (.int .i64 0), .x (.int .i64 0), .x (.int .i64 0), .emp, .x (.int .i64 0), .x (.int .i64 0), .x (.int .i64 0), .x (.int .i64 0), .x (.bool false), .x (.int .i64 0)]) := by kernel_rfl
@[simp] theorem st57 : Tryz.prog.stoodInHeld 57 = false := by kernel_rfl
@[simp] theorem eg57 : Tryz.prog.eqGuardType Tryz.prog.depth 57 = false := by kernel_rfl
-- 59 []int
attribute [simp] Tryz.underlying59
@[simp] theorem sz59 : szT Tryz.prog 59 = some 1 := by kernel_rfl
@[simp] theorem co59 : Tryz.prog.cellsOf 59 = 1 := by kernel_rfl
@[simp] theorem ag59 : aggT Tryz.prog 59 = some false := by kernel_rfl
@[simp] theorem zr59 : zeroD Tryz.prog 59 = some [.emp] := by kernel_rfl
@[simp] theorem mk59 : mkT Tryz.prog 59 = some (3, 1, 8, [.x (.int .i64 0)]) := by kernel_rfl
@[simp] theorem ap59 : appT Tryz.prog 59 = some (3, 1, 8) := by kernel_rfl
-- 62 api.KilnFault
attribute [simp] Tryz.underlying62
@[simp] theorem sz62 : szT Tryz.prog 62 = some 3 := by kernel_rfl
@[simp] theorem co62 : Tryz.prog.cellsOf 62 = 3 := by kernel_rfl
@[simp] theorem ag62 : aggT Tryz.prog 62 = some true := by kernel_rfl
@[simp] theorem zr62 : zeroD Tryz.prog 62 = some [.x (.int .i64 0), .x (.int .i64 0), .x (.int .i64 0)] := by kernel_rfl
@[simp] theorem bt62 : buildT Tryz.prog 62 = some ([(0, 1), (1, 1), (2, 1)], [.x (.int .i64 0), .x (.int .i64 0), .x (.int .i64 0)]) := by kernel_rfl
@[simp] theorem st62 : Tryz.prog.stoodInHeld 62 = false := by kernel_rfl
@[simp] theorem eg62 : Tryz.prog.eqGuardType Tryz.prog.depth 62 = false := by kernel_rfl
-- 68 []api.Species
attribute [simp] Tryz.underlying68
@[simp] theorem sz68 : szT Tryz.prog 68 = some 1 := by kernel_rfl
@[simp] theorem co68 : Tryz.prog.cellsOf 68 = 1 := by kernel_rfl
@[simp] theorem ag68 : aggT Tryz.prog 68 = some false := by kernel_rfl
@[simp] theorem zr68 : zeroD Tryz.prog 68 = some [.emp] := by kernel_rfl
@[simp] theorem mk68 : mkT Tryz.prog 68 = some (24, 13, 112, [.x (.string ByteArray.empty), .x (.int .i64 0), .x (.int .i64 0), .x (.int .i64 0), .x (.int .i64 0), .x (.int .i64 0), .x (.int .i64 0), .x (.int .i64 0), .x (.int .i64 0), .x (.int .i64 0), .x (.int .i64 0), .x (.int .i64 0), .x (.int .i64 0)]) := by kernel_rfl
@[simp] theorem ap68 : appT Tryz.prog 68 = some (24, 13, 112) := by kernel_rfl
-- 71 []sawmillref38.Item
attribute [simp] Tryz.underlying71
@[simp] theorem sz71 : szT Tryz.prog 71 = some 1 := by kernel_rfl
@[simp] theorem co71 : Tryz.prog.cellsOf 71 = 1 := by kernel_rfl
@[simp] theorem ag71 : aggT Tryz.prog 71 = some false := by kernel_rfl
@[simp] theorem zr71 : zeroD Tryz.prog 71 = some [.emp] := by kernel_rfl
@[simp] theorem mk71 : mkT Tryz.prog 71 = some (73, 4, 32, [.x (.int .i64 0), .x (.int .i64 0), .x (.int .i64 0), .x (.int .i64 0)]) := by kernel_rfl
@[simp] theorem ap71 : appT Tryz.prog 71 = some (73, 4, 32) := by kernel_rfl
-- 73 sawmillref38.Item
attribute [simp] Tryz.underlying73
@[simp] theorem sz73 : szT Tryz.prog 73 = some 4 := by kernel_rfl
@[simp] theorem co73 : Tryz.prog.cellsOf 73 = 4 := by kernel_rfl
@[simp] theorem ag73 : aggT Tryz.prog 73 = some true := by kernel_rfl
@[simp] theorem zr73 : zeroD Tryz.prog 73 = some [.x (.int .i64 0), .x (.int .i64 0), .x (.int .i64 0), .x (.int .i64 0)] := by kernel_rfl
@[simp] theorem bt73 : buildT Tryz.prog 73 = some ([(0, 1), (1, 3)], [.x (.int .i64 0), .x (.int .i64 0), .x (.int .i64 0), .x (.int .i64 0)]) := by kernel_rfl
@[simp] theorem st73 : Tryz.prog.stoodInHeld 73 = false := by kernel_rfl
@[simp] theorem eg73 : Tryz.prog.eqGuardType Tryz.prog.depth 73 = false := by kernel_rfl
-- 75 sawmillref38.Kiln
attribute [simp] Tryz.underlying75
@[simp] theorem sz75 : szT Tryz.prog 75 = some 23 := by kernel_rfl
@[simp] theorem co75 : Tryz.prog.cellsOf 75 = 23 := by kernel_rfl
@[simp] theorem ag75 : aggT Tryz.prog 75 = some true := by kernel_rfl
@[simp] theorem zr75 : zeroD Tryz.prog 75 = some [.x (.string ByteArray.empty), .x (.int .i64 0), .emp, .x (.string ByteArray.empty), .x (.int .i64 0), .x (.int .i64 0), .x (.int .i64 0), .x (.int .i64 0), .x (.int .i64 0), .x (.int .i64 0), .x (.int .i64 0), .x (.int .i64 0), .x (.int .i64 0), .x (.int .i64 0), .x (.int .i64 0), .x (.int .i64 0), .emp, .x (.int .i64 0), .x (.int .i64 0), .x (.int .i64 0), .x (.int .i64 0), .x (.int .i64 0), .x (.int .i64 0)] := by kernel_rfl
@[simp] theorem bt75 : buildT Tryz.prog 75 = some ([(0, 3), (3, 13), (16, 1), (17, 2), (19, 1), (20, 1), (21, 1), (22, 1)], [.x (.string ByteArray.empty), .x (.int .i64 0), .emp, .x (.string ByteArray.empty), .x (.int .i64 0), .x (.int .i64 0), .x (.int .i64 0), .x (.int .i64 0), .x (.int .i64 0), .x (.int .i64 0), .x (.int .i64 0), .x (.int .i64 0), .x (.int .i64 0), .x (.int .i64 0), .x (.int .i64 0), .x (.int .i64 0), .emp, .x (.int .i64 0), .x (.int .i64 0), .x (.int .i64 0), .x (.int .i64 0), .x (.int .i64 0), .x (.int .i64 0)]) := by kernel_rfl
@[simp] theorem st75 : Tryz.prog.stoodInHeld 75 = false := by kernel_rfl
@[simp] theorem eg75 : Tryz.prog.eqGuardType Tryz.prog.depth 75 = false := by kernel_rfl
-- 76 (sawmillref38.Kiln, api.Errno)
attribute [simp] Tryz.underlying76
@[simp] theorem sz76 : szT Tryz.prog 76 = some 1 := by kernel_rfl
@[simp] theorem co76 : Tryz.prog.cellsOf 76 = 1 := by kernel_rfl
@[simp] theorem ag76 : aggT Tryz.prog 76 = some false := by kernel_rfl
-- 81 (sawmillref38.Kiln, bool)
attribute [simp] Tryz.underlying81
@[simp] theorem sz81 : szT Tryz.prog 81 = some 1 := by kernel_rfl
@[simp] theorem co81 : Tryz.prog.cellsOf 81 = 1 := by kernel_rfl
@[simp] theorem ag81 : aggT Tryz.prog 81 = some false := by kernel_rfl
-- 85 api.Stage
attribute [simp] Tryz.underlying85
@[simp] theorem sz85 : szT Tryz.prog 85 = some 4 := by kernel_rfl
@[simp] theorem co85 : Tryz.prog.cellsOf 85 = 4 := by kernel_rfl
@[simp] theorem ag85 : aggT Tryz.prog 85 = some true := by kernel_rfl
@[simp] theorem zr85 : zeroD Tryz.prog 85 = some [.x (.int .i64 0), .x (.int .i64 0), .x (.int .i64 0), .x (.int .i64 0)] := by kernel_rfl
@[simp] theorem bt85 : buildT Tryz.prog 85 = some ([(0, 1), (1, 1), (2, 1), (3, 1)], [.x (.int .i64 0), .x (.int .i64 0), .x (.int .i64 0), .x (.int .i64 0)]) := by kernel_rfl
@[simp] theorem st85 : Tryz.prog.stoodInHeld 85 = false := by kernel_rfl
@[simp] theorem eg85 : Tryz.prog.eqGuardType Tryz.prog.depth 85 = false := by kernel_rfl
-- 91 (api.Species, bool)
attribute [simp] Tryz.underlying91
@[simp] theorem sz91 : szT Tryz.prog 91 = some 1 := by kernel_rfl
@[simp] theorem co91 : Tryz.prog.cellsOf 91 = 1 := by kernel_rfl
@[simp] theorem ag91 : aggT Tryz.prog 91 = some false := by kernel_rfl
-- 95 []kiln.Item
attribute [simp] Tryz.underlying95
@[simp] theorem sz95 : szT Tryz.prog 95 = some 1 := by kernel_rfl
@[simp] theorem co95 : Tryz.prog.cellsOf 95 = 1 := by kernel_rfl
@[simp] theorem ag95 : aggT Tryz.prog 95 = some false := by kernel_rfl
@[simp] theorem zr95 : zeroD Tryz.prog 95 = some [.emp] := by kernel_rfl
@[simp] theorem mk95 : mkT Tryz.prog 95 = some (96, 4, 32, [.x (.int .i64 0), .x (.int .i64 0), .x (.int .i64 0), .x (.int .i64 0)]) := by kernel_rfl
@[simp] theorem ap95 : appT Tryz.prog 95 = some (96, 4, 32) := by kernel_rfl
-- 96 kiln.Item
attribute [simp] Tryz.underlying96
@[simp] theorem sz96 : szT Tryz.prog 96 = some 4 := by kernel_rfl
@[simp] theorem co96 : Tryz.prog.cellsOf 96 = 4 := by kernel_rfl
@[simp] theorem ag96 : aggT Tryz.prog 96 = some true := by kernel_rfl
@[simp] theorem zr96 : zeroD Tryz.prog 96 = some [.x (.int .i64 0), .x (.int .i64 0), .x (.int .i64 0), .x (.int .i64 0)] := by kernel_rfl
@[simp] theorem bt96 : buildT Tryz.prog 96 = some ([(0, 1), (1, 3)], [.x (.int .i64 0), .x (.int .i64 0), .x (.int .i64 0), .x (.int .i64 0)]) := by kernel_rfl
@[simp] theorem st96 : Tryz.prog.stoodInHeld 96 = false := by kernel_rfl
@[simp] theorem eg96 : Tryz.prog.eqGuardType Tryz.prog.depth 96 = false := by kernel_rfl
-- 97 *kiln.Kiln
attribute [simp] Tryz.underlying97
@[simp] theorem sz97 : szT Tryz.prog 97 = some 1 := by kernel_rfl
@[simp] theorem co97 : Tryz.prog.cellsOf 97 = 1 := by kernel_rfl
@[simp] theorem ag97 : aggT Tryz.prog 97 = some false := by kernel_rfl
@[simp] theorem zr97 : zeroD Tryz.prog 97 = some [.x (.pointer none)] := by kernel_rfl
-- 98 (*kiln.Kiln, api.Errno)
attribute [simp] Tryz.underlying98
@[simp] theorem sz98 : szT Tryz.prog 98 = some 1 := by kernel_rfl
@[simp] theorem co98 : Tryz.prog.cellsOf 98 = 1 := by kernel_rfl
@[simp] theorem ag98 : aggT Tryz.prog 98 = some false := by kernel_rfl
-- 109 (int, bool)
attribute [simp] Tryz.underlying109
@[simp] theorem sz109 : szT Tryz.prog 109 = some 1 := by kernel_rfl
@[simp] theorem co109 : Tryz.prog.cellsOf 109 = 1 := by kernel_rfl
@[simp] theorem ag109 : aggT Tryz.prog 109 = some false := by kernel_rfl
-- 115 api.Defect
attribute [simp] Tryz.underlying115
@[simp] theorem sz115 : szT Tryz.prog 115 = some 7 := by kernel_rfl
@[simp] theorem co115 : Tryz.prog.cellsOf 115 = 7 := by kernel_rfl
@[simp] theorem ag115 : aggT Tryz.prog 115 = some true := by kernel_rfl
@[simp] theorem zr115 : zeroD Tryz.prog 115 = some [.x (.int .i64 0), .x (.int .i64 0), .x (.int .i64 0), .x (.int .i64 0), .x (.int .i64 0), .x (.int .i64 0), .x (.int .i64 0)] := by kernel_rfl
@[simp] theorem bt115 : buildT Tryz.prog 115 = some ([(0, 1), (1, 6)], [.x (.int .i64 0), .x (.int .i64 0), .x (.int .i64 0), .x (.int .i64 0), .x (.int .i64 0), .x (.int .i64 0), .x (.int .i64 0)]) := by kernel_rfl
@[simp] theorem st115 : Tryz.prog.stoodInHeld 115 = false := by kernel_rfl
@[simp] theorem eg115 : Tryz.prog.eqGuardType Tryz.prog.depth 115 = false := by kernel_rfl
-- 118 uint
attribute [simp] Tryz.underlying118
@[simp] theorem sz118 : szT Tryz.prog 118 = some 1 := by kernel_rfl
@[simp] theorem co118 : Tryz.prog.cellsOf 118 = 1 := by kernel_rfl
@[simp] theorem ag118 : aggT Tryz.prog 118 = some false := by kernel_rfl
@[simp] theorem zr118 : zeroD Tryz.prog 118 = some [.x (.int .u64 0)] := by kernel_rfl
-- 120 uint64
attribute [simp] Tryz.underlying120
@[simp] theorem sz120 : szT Tryz.prog 120 = some 1 := by kernel_rfl
@[simp] theorem co120 : Tryz.prog.cellsOf 120 = 1 := by kernel_rfl
@[simp] theorem ag120 : aggT Tryz.prog 120 = some false := by kernel_rfl
@[simp] theorem zr120 : zeroD Tryz.prog 120 = some [.x (.int .u64 0)] := by kernel_rfl
-- 123 [2]int
attribute [simp] Tryz.underlying123
@[simp] theorem sz123 : szT Tryz.prog 123 = some 2 := by kernel_rfl
@[simp] theorem co123 : Tryz.prog.cellsOf 123 = 2 := by kernel_rfl
@[simp] theorem ag123 : aggT Tryz.prog 123 = some true := by kernel_rfl
@[simp] theorem zr123 : zeroD Tryz.prog 123 = some [.x (.int .i64 0), .x (.int .i64 0)] := by kernel_rfl
@[simp] theorem bt123 : buildT Tryz.prog 123 = some ([(0, 1), (1, 1)], [.x (.int .i64 0), .x (.int .i64 0)]) := by kernel_rfl
-- 124 [12][2]int
attribute [simp] Tryz.underlying124
@[simp] theorem sz124 : szT Tryz.prog 124 = some 24 := by kernel_rfl
@[simp] theorem co124 : Tryz.prog.cellsOf 124 = 24 := by kernel_rfl
@[simp] theorem ag124 : aggT Tryz.prog 124 = some true := by kernel_rfl
@[simp] theorem zr124 : zeroD Tryz.prog 124 = some [.x (.int .i64 0), .x (.int .i64 0), .x (.int .i64 0), .x (.int .i64 0), .x (.int .i64 0), .x (.int .i64 0), .x (.int .i64 0), .x (.int .i64 0), .x (.int .i64 0), .x (.int .i64 0), .x (.int .i64 0), .x (.int .i64 0), .x (.int .i64 0), .x (.int .i64 0), .x (.int .i64 0), .x (.int .i64 0), .x (.int .i64 0), .x (.int .i64 0), .x (.int .i64 0), .x (.int .i64 0), .x (.int .i64 0), .x (.int .i64 0), .x (.int .i64 0), .x (.int .i64 0)] := by kernel_rfl
@[simp] theorem bt124 : buildT Tryz.prog 124 = some ([(0, 2), (2, 2), (4, 2), (6, 2), (8, 2), (10, 2), (12, 2), (14, 2), (16, 2), (18, 2), (20, 2), (22, 2)], [.x (.int .i64 0), .x (.int .i64 0), .x (.int .i64 0), .x (.int .i64 0), .x (.int .i64 0), .x (.int .i64 0), .x (.int .i64 0), .x (.int .i64 0), .x (.int .i64 0), .x (.int .i64 0), .x (.int .i64 0), .x (.int .i64 0), .x (.int .i64 0), .x (.int .i64 0), .x (.int .i64 0), .x (.int .i64 0), .x (.int .i64 0), .x (.int .i64 0), .x (.int .i64 0), .x (.int .i64 0), .x (.int .i64 0), .x (.int .i64 0), .x (.int .i64 0), .x (.int .i64 0)]) := by kernel_rfl
-- 125 [12]int
attribute [simp] Tryz.underlying125
@[simp] theorem sz125 : szT Tryz.prog 125 = some 12 := by kernel_rfl
@[simp] theorem co125 : Tryz.prog.cellsOf 125 = 12 := by kernel_rfl
@[simp] theorem ag125 : aggT Tryz.prog 125 = some true := by kernel_rfl
@[simp] theorem zr125 : zeroD Tryz.prog 125 = some [.x (.int .i64 0), .x (.int .i64 0), .x (.int .i64 0), .x (.int .i64 0), .x (.int .i64 0), .x (.int .i64 0), .x (.int .i64 0), .x (.int .i64 0), .x (.int .i64 0), .x (.int .i64 0), .x (.int .i64 0), .x (.int .i64 0)] := by kernel_rfl
@[simp] theorem bt125 : buildT Tryz.prog 125 = some ([(0, 1), (1, 1), (2, 1), (3, 1), (4, 1), (5, 1), (6, 1), (7, 1), (8, 1), (9, 1), (10, 1), (11, 1)], [.x (.int .i64 0), .x (.int .i64 0), .x (.int .i64 0), .x (.int .i64 0), .x (.int .i64 0), .x (.int .i64 0), .x (.int .i64 0), .x (.int .i64 0), .x (.int .i64 0), .x (.int .i64 0), .x (.int .i64 0), .x (.int .i64 0)]) := by kernel_rfl
-- 130 kiln.Kiln
attribute [simp] Tryz.underlying130
@[simp] theorem sz130 : szT Tryz.prog 130 = some 23 := by kernel_rfl
@[simp] theorem co130 : Tryz.prog.cellsOf 130 = 23 := by kernel_rfl
@[simp] theorem ag130 : aggT Tryz.prog 130 = some true := by kernel_rfl
@[simp] theorem zr130 : zeroD Tryz.prog 130 = some [.x (.string ByteArray.empty), .x (.int .i64 0), .emp, .x (.string ByteArray.empty), .x (.int .i64 0), .x (.int .i64 0), .x (.int .i64 0), .x (.int .i64 0), .x (.int .i64 0), .x (.int .i64 0), .x (.int .i64 0), .x (.int .i64 0), .x (.int .i64 0), .x (.int .i64 0), .x (.int .i64 0), .x (.int .i64 0), .emp, .x (.int .i64 0), .x (.int .i64 0), .x (.int .i64 0), .x (.int .i64 0), .x (.int .i64 0), .x (.int .i64 0)] := by kernel_rfl
@[simp] theorem bt130 : buildT Tryz.prog 130 = some ([(0, 3), (3, 13), (16, 1), (17, 2), (19, 1), (20, 1), (21, 1), (22, 1)], [.x (.string ByteArray.empty), .x (.int .i64 0), .emp, .x (.string ByteArray.empty), .x (.int .i64 0), .x (.int .i64 0), .x (.int .i64 0), .x (.int .i64 0), .x (.int .i64 0), .x (.int .i64 0), .x (.int .i64 0), .x (.int .i64 0), .x (.int .i64 0), .x (.int .i64 0), .x (.int .i64 0), .x (.int .i64 0), .emp, .x (.int .i64 0), .x (.int .i64 0), .x (.int .i64 0), .x (.int .i64 0), .x (.int .i64 0), .x (.int .i64 0)]) := by kernel_rfl
@[simp] theorem st130 : Tryz.prog.stoodInHeld 130 = false := by kernel_rfl
@[simp] theorem eg130 : Tryz.prog.eqGuardType Tryz.prog.depth 130 = false := by kernel_rfl
-- 133 (int, int)
attribute [simp] Tryz.underlying133
@[simp] theorem sz133 : szT Tryz.prog 133 = some 1 := by kernel_rfl
@[simp] theorem co133 : Tryz.prog.cellsOf 133 = 1 := by kernel_rfl
@[simp] theorem ag133 : aggT Tryz.prog 133 = some false := by kernel_rfl
-- 162 [4]bool
attribute [simp] Tryz.underlying162
@[simp] theorem sz162 : szT Tryz.prog 162 = some 4 := by kernel_rfl
@[simp] theorem co162 : Tryz.prog.cellsOf 162 = 4 := by kernel_rfl
@[simp] theorem ag162 : aggT Tryz.prog 162 = some true := by kernel_rfl
@[simp] theorem zr162 : zeroD Tryz.prog 162 = some [.x (.bool false), .x (.bool false), .x (.bool false), .x (.bool false)] := by kernel_rfl
@[simp] theorem bt162 : buildT Tryz.prog 162 = some ([(0, 1), (1, 1), (2, 1), (3, 1)], [.x (.bool false), .x (.bool false), .x (.bool false), .x (.bool false)]) := by kernel_rfl
-- 166 [][]int
attribute [simp] Tryz.underlying166
@[simp] theorem sz166 : szT Tryz.prog 166 = some 1 := by kernel_rfl
@[simp] theorem co166 : Tryz.prog.cellsOf 166 = 1 := by kernel_rfl
@[simp] theorem ag166 : aggT Tryz.prog 166 = some false := by kernel_rfl
@[simp] theorem zr166 : zeroD Tryz.prog 166 = some [.emp] := by kernel_rfl
@[simp] theorem mk166 : mkT Tryz.prog 166 = some (59, 1, 24, [.emp]) := by kernel_rfl
@[simp] theorem ap166 : appT Tryz.prog 166 = some (59, 1, 24) := by kernel_rfl
-- 168 api.Grid
attribute [simp] Tryz.underlying168
@[simp] theorem sz168 : szT Tryz.prog 168 = some 3 := by kernel_rfl
@[simp] theorem co168 : Tryz.prog.cellsOf 168 = 3 := by kernel_rfl
@[simp] theorem ag168 : aggT Tryz.prog 168 = some true := by kernel_rfl
@[simp] theorem zr168 : zeroD Tryz.prog 168 = some [.emp, .emp, .emp] := by kernel_rfl
@[simp] theorem bt168 : buildT Tryz.prog 168 = some ([(0, 1), (1, 1), (2, 1)], [.emp, .emp, .emp]) := by kernel_rfl
@[simp] theorem st168 : Tryz.prog.stoodInHeld 168 = false := by kernel_rfl
@[simp] theorem eg168 : Tryz.prog.eqGuardType Tryz.prog.depth 168 = false := by kernel_rfl
-- 173 []api.Point
attribute [simp] Tryz.underlying173
@[simp] theorem sz173 : szT Tryz.prog 173 = some 1 := by kernel_rfl
@[simp] theorem co173 : Tryz.prog.cellsOf 173 = 1 := by kernel_rfl
@[simp] theorem ag173 : aggT Tryz.prog 173 = some false := by kernel_rfl
@[simp] theorem zr173 : zeroD Tryz.prog 173 = some [.emp] := by kernel_rfl
@[simp] theorem mk173 : mkT Tryz.prog 173 = some (177, 2, 16, [.x (.int .i64 0), .x (.int .i64 0)]) := by kernel_rfl
@[simp] theorem ap173 : appT Tryz.prog 173 = some (177, 2, 16) := by kernel_rfl
-- 177 api.Point
attribute [simp] Tryz.underlying177
@[simp] theorem sz177 : szT Tryz.prog 177 = some 2 := by kernel_rfl
@[simp] theorem co177 : Tryz.prog.cellsOf 177 = 2 := by kernel_rfl
@[simp] theorem ag177 : aggT Tryz.prog 177 = some true := by kernel_rfl
@[simp] theorem zr177 : zeroD Tryz.prog 177 = some [.x (.int .i64 0), .x (.int .i64 0)] := by kernel_rfl
@[simp] theorem bt177 : buildT Tryz.prog 177 = some ([(0, 1), (1, 1)], [.x (.int .i64 0), .x (.int .i64 0)]) := by kernel_rfl
@[simp] theorem st177 : Tryz.prog.stoodInHeld 177 = false := by kernel_rfl
@[simp] theorem eg177 : Tryz.prog.eqGuardType Tryz.prog.depth 177 = false := by kernel_rfl
-- 179 (uint64, uint64)
attribute [simp] Tryz.underlying179
@[simp] theorem sz179 : szT Tryz.prog 179 = some 1 := by kernel_rfl
@[simp] theorem co179 : Tryz.prog.cellsOf 179 = 1 := by kernel_rfl
@[simp] theorem ag179 : aggT Tryz.prog 179 = some false := by kernel_rfl
-- 186 error
attribute [simp] Tryz.underlying186
@[simp] theorem sz186 : szT Tryz.prog 186 = some 1 := by kernel_rfl
@[simp] theorem co186 : Tryz.prog.cellsOf 186 = 1 := by kernel_rfl
@[simp] theorem ag186 : aggT Tryz.prog 186 = some false := by kernel_rfl
@[simp] theorem zr186 : zeroD Tryz.prog 186 = some [.x .nilIface] := by kernel_rfl
-- 187 [16]int
attribute [simp] Tryz.underlying187
@[simp] theorem sz187 : szT Tryz.prog 187 = some 16 := by kernel_rfl
@[simp] theorem co187 : Tryz.prog.cellsOf 187 = 16 := by kernel_rfl
@[simp] theorem ag187 : aggT Tryz.prog 187 = some true := by kernel_rfl
@[simp] theorem zr187 : zeroD Tryz.prog 187 = some [.x (.int .i64 0), .x (.int .i64 0), .x (.int .i64 0), .x (.int .i64 0), .x (.int .i64 0), .x (.int .i64 0), .x (.int .i64 0), .x (.int .i64 0), .x (.int .i64 0), .x (.int .i64 0), .x (.int .i64 0), .x (.int .i64 0), .x (.int .i64 0), .x (.int .i64 0), .x (.int .i64 0), .x (.int .i64 0)] := by kernel_rfl
@[simp] theorem bt187 : buildT Tryz.prog 187 = some ([(0, 1), (1, 1), (2, 1), (3, 1), (4, 1), (5, 1), (6, 1), (7, 1), (8, 1), (9, 1), (10, 1), (11, 1), (12, 1), (13, 1), (14, 1), (15, 1)], [.x (.int .i64 0), .x (.int .i64 0), .x (.int .i64 0), .x (.int .i64 0), .x (.int .i64 0), .x (.int .i64 0), .x (.int .i64 0), .x (.int .i64 0), .x (.int .i64 0), .x (.int .i64 0), .x (.int .i64 0), .x (.int .i64 0), .x (.int .i64 0), .x (.int .i64 0), .x (.int .i64 0), .x (.int .i64 0)]) := by kernel_rfl
-- sawmill/sawmilllaw40.few: loops [5]; state: params 0..0, then [1, 2, 3, 4]
attribute [simp] Tryz.f5
noncomputable def an_law40_few : Ann := ⟨[1, 2, 3, 4], [35, 40, 80], [], [(5, [1, 3, 4])], [(0, [3]), (1, [1, 3, 4])], some [2], [], [], [], []⟩
@[simp] theorem an_law40_few_draws : an_law40_few.draws = [] := rfl
@[simp] theorem an_law40_few_exits : an_law40_few.exits = [(0, [3]), (1, [1, 3, 4])] := rfl
@[simp] theorem an_law40_few_rets : an_law40_few.rets = some [2] := rfl
@[simp] theorem an_law40_few_keep : an_law40_few.keep = [1, 2, 3, 4] := rfl
@[simp] theorem an_law40_few_cond : an_law40_few.cond = [35, 40, 80] := rfl
@[simp] theorem an_law40_few_rows : an_law40_few.rows = [] := rfl
@[simp] theorem an_law40_few_loops : an_law40_few.loops = [(5, [1, 3, 4])] := rfl
@[simp] theorem an_law40_few_ecalls : an_law40_few.ecalls = [] := rfl
@[simp] theorem an_law40_few_crows : an_law40_few.crows = [] := rfl
@[simp] theorem an_law40_few_tails : an_law40_few.tails = [] := rfl
@[simp] noncomputable def cl_law40_few : List (Nat × (List D → Option D)) := []
@[simp] noncomputable def ce_law40_few : List (Nat × (List (Nat × O) → List D → Option (D × List (Nat × O)))) := []
noncomputable def c_law40_few : CT := ⟨callOf (cl_law40_few ), callOfE ce_law40_few, gl⟩
@[simp] theorem c_law40_few_p (f : FuncId) (ds : List D) : c_law40_few.p f ds = callOf (cl_law40_few ) f ds := Eq.trans rfl rfl
@[simp] theorem c_law40_few_e (f : FuncId) (hs : List (Nat × O)) (ds : List D) : c_law40_few.e f hs ds = callOfE ce_law40_few f hs ds := Eq.trans rfl rfl
@[simp] theorem c_law40_few_g (g : Nat) : c_law40_few.g g = gl g := Eq.trans rfl rfl
noncomputable def L_law40_few (i n : Nat) (s : St) : Option (E × St) := atN Tryz.prog c_law40_few an_law40_few 92 (bodyOf Tryz.f5) i n s
noncomputable def H_law40_few (n i : Nat) (s : St) : Option (E × St) := atH Tryz.prog c_law40_few an_law40_few 92 (bodyOf Tryz.f5) n i s
@[simp] theorem H_law40_few_eq (n i : Nat) (s : St) : H_law40_few n i s = L_law40_few i n (headOf (an_law40_few.loops.lookup i) s) := rfl
noncomputable def R_law40_few (i : Nat) (s : St) : Option (E × St) := stepL Tryz.prog c_law40_few an_law40_few 92 (bodyOf Tryz.f5) i s
theorem lok_law40_few : okLoops (bodyOf Tryz.f5) = true := by kernel_rfl
theorem L_law40_few_zero (i : Nat) (s : St) : L_law40_few i 0 s = none := rfl
theorem L_law40_few_succ (i n : Nat) (s : St) : L_law40_few i (n + 1) s = andThen (R_law40_few i s) (H_law40_few n i) := atN_succ lok_law40_few i n s
theorem R_law40_few_eq (i : Nat) (s : St) : R_law40_few i s = runS Tryz.prog c_law40_few (H_law40_few bigL) an_law40_few 92 (loopAt (bodyOf Tryz.f5) i) s := rfl
noncomputable def F_law40_few (ds : List D) : Option D := runF Tryz.prog c_law40_few an_law40_few 92 (bodyOf Tryz.f5) [.tmp 2] ds
theorem F_law40_few_eq (ds : List D) : F_law40_few ds = runG Tryz.prog c_law40_few (H_law40_few bigL) an_law40_few 92 (bodyOf Tryz.f5) [.tmp 2] ds := runG_eq lok_law40_few _ ds
theorem C_law40_few (ds : List D) (r : D) (h : F_law40_few ds = some r) : Contract Tryz.prog gl 5 ds r := contract_of mix Tryz.func5 rfl (by kernel_rfl) (by kernel_rfl) (by decide) (call := c_law40_few) ⟨callOf_ok cl_law40_few trivial, callOfE_ok ce_law40_few trivial⟩ h
-- sawmill/sawmilllaw40.sample: loops []; state: params 0..0, then [2, 3, 4, 5]
attribute [simp] Tryz.f16
noncomputable def an_law40_sample : Ann := ⟨[2, 3, 4, 5], [], [], [], [], some [2], [], [], [], []⟩
@[simp] theorem an_law40_sample_draws : an_law40_sample.draws = [] := rfl
@[simp] theorem an_law40_sample_exits : an_law40_sample.exits = [] := rfl
@[simp] theorem an_law40_sample_rets : an_law40_sample.rets = some [2] := rfl
@[simp] theorem an_law40_sample_keep : an_law40_sample.keep = [2, 3, 4, 5] := rfl
@[simp] theorem an_law40_sample_cond : an_law40_sample.cond = [] := rfl
@[simp] theorem an_law40_sample_rows : an_law40_sample.rows = [] := rfl
@[simp] theorem an_law40_sample_loops : an_law40_sample.loops = [] := rfl
@[simp] theorem an_law40_sample_ecalls : an_law40_sample.ecalls = [] := rfl
@[simp] theorem an_law40_sample_crows : an_law40_sample.crows = [] := rfl
@[simp] theorem an_law40_sample_tails : an_law40_sample.tails = [] := rfl
@[simp] noncomputable def cl_law40_sample : List (Nat × (List D → Option D)) := []
@[simp] noncomputable def ce_law40_sample : List (Nat × (List (Nat × O) → List D → Option (D × List (Nat × O)))) := []
noncomputable def c_law40_sample : CT := ⟨callOf (cl_law40_sample ), callOfE ce_law40_sample, gl⟩
@[simp] theorem c_law40_sample_p (f : FuncId) (ds : List D) : c_law40_sample.p f ds = callOf (cl_law40_sample ) f ds := Eq.trans rfl rfl
@[simp] theorem c_law40_sample_e (f : FuncId) (hs : List (Nat × O)) (ds : List D) : c_law40_sample.e f hs ds = callOfE ce_law40_sample f hs ds := Eq.trans rfl rfl
@[simp] theorem c_law40_sample_g (g : Nat) : c_law40_sample.g g = gl g := Eq.trans rfl rfl
noncomputable def L_law40_sample (i n : Nat) (s : St) : Option (E × St) := atN Tryz.prog c_law40_sample an_law40_sample 23 (bodyOf Tryz.f16) i n s
noncomputable def H_law40_sample (n i : Nat) (s : St) : Option (E × St) := atH Tryz.prog c_law40_sample an_law40_sample 23 (bodyOf Tryz.f16) n i s
@[simp] theorem H_law40_sample_eq (n i : Nat) (s : St) : H_law40_sample n i s = L_law40_sample i n (headOf (an_law40_sample.loops.lookup i) s) := rfl
noncomputable def R_law40_sample (i : Nat) (s : St) : Option (E × St) := stepL Tryz.prog c_law40_sample an_law40_sample 23 (bodyOf Tryz.f16) i s
theorem lok_law40_sample : okLoops (bodyOf Tryz.f16) = true := by kernel_rfl
noncomputable def F_law40_sample (ds : List D) : Option D := runF Tryz.prog c_law40_sample an_law40_sample 23 (bodyOf Tryz.f16) [.cell 2 30] ds
theorem F_law40_sample_eq (ds : List D) : F_law40_sample ds = runG Tryz.prog c_law40_sample (H_law40_sample bigL) an_law40_sample 23 (bodyOf Tryz.f16) [.cell 2 30] ds := runG_eq lok_law40_sample _ ds
theorem C_law40_sample (ds : List D) (r : D) (h : F_law40_sample ds = some r) : Contract Tryz.prog gl 16 ds r := contract_of mix Tryz.func16 rfl (by kernel_rfl) (by kernel_rfl) (by decide) (call := c_law40_sample) ⟨callOf_ok cl_law40_sample trivial, callOfE_ok ce_law40_sample trivial⟩ h
-- sawmill/moist.Check: loops []; state: params 0..0, then [1, 2]
attribute [simp] Tryz.f19
noncomputable def an_moist_Check : Ann := ⟨[1, 2], [20, 28], [], [], [], some [2], [], [], [], []⟩
@[simp] theorem an_moist_Check_draws : an_moist_Check.draws = [] := rfl
@[simp] theorem an_moist_Check_exits : an_moist_Check.exits = [] := rfl
@[simp] theorem an_moist_Check_rets : an_moist_Check.rets = some [2] := rfl
@[simp] theorem an_moist_Check_keep : an_moist_Check.keep = [1, 2] := rfl
@[simp] theorem an_moist_Check_cond : an_moist_Check.cond = [20, 28] := rfl
@[simp] theorem an_moist_Check_rows : an_moist_Check.rows = [] := rfl
@[simp] theorem an_moist_Check_loops : an_moist_Check.loops = [] := rfl
@[simp] theorem an_moist_Check_ecalls : an_moist_Check.ecalls = [] := rfl
@[simp] theorem an_moist_Check_crows : an_moist_Check.crows = [] := rfl
@[simp] theorem an_moist_Check_tails : an_moist_Check.tails = [] := rfl
@[simp] noncomputable def cl_moist_Check : List (Nat × (List D → Option D)) := []
@[simp] noncomputable def ce_moist_Check : List (Nat × (List (Nat × O) → List D → Option (D × List (Nat × O)))) := []
noncomputable def c_moist_Check : CT := ⟨callOf (cl_moist_Check ), callOfE ce_moist_Check, gl⟩
@[simp] theorem c_moist_Check_p (f : FuncId) (ds : List D) : c_moist_Check.p f ds = callOf (cl_moist_Check ) f ds := Eq.trans rfl rfl
@[simp] theorem c_moist_Check_e (f : FuncId) (hs : List (Nat × O)) (ds : List D) : c_moist_Check.e f hs ds = callOfE ce_moist_Check f hs ds := Eq.trans rfl rfl
@[simp] theorem c_moist_Check_g (g : Nat) : c_moist_Check.g g = gl g := Eq.trans rfl rfl
noncomputable def L_moist_Check (i n : Nat) (s : St) : Option (E × St) := atN Tryz.prog c_moist_Check an_moist_Check 29 (bodyOf Tryz.f19) i n s
noncomputable def H_moist_Check (n i : Nat) (s : St) : Option (E × St) := atH Tryz.prog c_moist_Check an_moist_Check 29 (bodyOf Tryz.f19) n i s
@[simp] theorem H_moist_Check_eq (n i : Nat) (s : St) : H_moist_Check n i s = L_moist_Check i n (headOf (an_moist_Check.loops.lookup i) s) := rfl
noncomputable def R_moist_Check (i : Nat) (s : St) : Option (E × St) := stepL Tryz.prog c_moist_Check an_moist_Check 29 (bodyOf Tryz.f19) i s
theorem lok_moist_Check : okLoops (bodyOf Tryz.f19) = true := by kernel_rfl
noncomputable def F_moist_Check (ds : List D) : Option D := runF Tryz.prog c_moist_Check an_moist_Check 29 (bodyOf Tryz.f19) [.tmp 2] ds
theorem F_moist_Check_eq (ds : List D) : F_moist_Check ds = runG Tryz.prog c_moist_Check (H_moist_Check bigL) an_moist_Check 29 (bodyOf Tryz.f19) [.tmp 2] ds := runG_eq lok_moist_Check _ ds
theorem C_moist_Check (ds : List D) (r : D) (h : F_moist_Check ds = some r) : Contract Tryz.prog gl 19 ds r := contract_of mix Tryz.func19 rfl (by kernel_rfl) (by kernel_rfl) (by decide) (call := c_moist_Check) ⟨callOf_ok cl_moist_Check trivial, callOfE_ok ce_moist_Check trivial⟩ h
-- sawmill/span.size: loops []; state: params 0..0, then [1, 2]
attribute [simp] Tryz.f64
noncomputable def an_span_size : Ann := ⟨[1, 2], [7], [], [], [], some [2], [], [], [], []⟩
@[simp] theorem an_span_size_draws : an_span_size.draws = [] := rfl
@[simp] theorem an_span_size_exits : an_span_size.exits = [] := rfl
@[simp] theorem an_span_size_rets : an_span_size.rets = some [2] := rfl
@[simp] theorem an_span_size_keep : an_span_size.keep = [1, 2] := rfl
@[simp] theorem an_span_size_cond : an_span_size.cond = [7] := rfl
@[simp] theorem an_span_size_rows : an_span_size.rows = [] := rfl
@[simp] theorem an_span_size_loops : an_span_size.loops = [] := rfl
@[simp] theorem an_span_size_ecalls : an_span_size.ecalls = [] := rfl
@[simp] theorem an_span_size_crows : an_span_size.crows = [] := rfl
@[simp] theorem an_span_size_tails : an_span_size.tails = [] := rfl
@[simp] noncomputable def cl_span_size : List (Nat × (List D → Option D)) := []
@[simp] noncomputable def ce_span_size : List (Nat × (List (Nat × O) → List D → Option (D × List (Nat × O)))) := []
noncomputable def c_span_size : CT := ⟨callOf (cl_span_size ), callOfE ce_span_size, gl⟩
@[simp] theorem c_span_size_p (f : FuncId) (ds : List D) : c_span_size.p f ds = callOf (cl_span_size ) f ds := Eq.trans rfl rfl
@[simp] theorem c_span_size_e (f : FuncId) (hs : List (Nat × O)) (ds : List D) : c_span_size.e f hs ds = callOfE ce_span_size f hs ds := Eq.trans rfl rfl
@[simp] theorem c_span_size_g (g : Nat) : c_span_size.g g = gl g := Eq.trans rfl rfl
noncomputable def L_span_size (i n : Nat) (s : St) : Option (E × St) := atN Tryz.prog c_span_size an_span_size 15 (bodyOf Tryz.f64) i n s
noncomputable def H_span_size (n i : Nat) (s : St) : Option (E × St) := atH Tryz.prog c_span_size an_span_size 15 (bodyOf Tryz.f64) n i s
@[simp] theorem H_span_size_eq (n i : Nat) (s : St) : H_span_size n i s = L_span_size i n (headOf (an_span_size.loops.lookup i) s) := rfl
noncomputable def R_span_size (i : Nat) (s : St) : Option (E × St) := stepL Tryz.prog c_span_size an_span_size 15 (bodyOf Tryz.f64) i s
theorem lok_span_size : okLoops (bodyOf Tryz.f64) = true := by kernel_rfl
noncomputable def F_span_size (ds : List D) : Option D := runF Tryz.prog c_span_size an_span_size 15 (bodyOf Tryz.f64) [.tmp 2] ds
theorem F_span_size_eq (ds : List D) : F_span_size ds = runG Tryz.prog c_span_size (H_span_size bigL) an_span_size 15 (bodyOf Tryz.f64) [.tmp 2] ds := runG_eq lok_span_size _ ds
theorem C_span_size (ds : List D) (r : D) (h : F_span_size ds = some r) : Contract Tryz.prog gl 64 ds r := contract_of mix Tryz.func64 rfl (by kernel_rfl) (by kernel_rfl) (by decide) (call := c_span_size) ⟨callOf_ok cl_span_size trivial, callOfE_ok ce_span_size trivial⟩ h
-- sawmill/span.limited: loops []; state: params 0..0, then [2]
attribute [simp] Tryz.f63
noncomputable def an_span_limited : Ann := ⟨[2], [], [], [], [], some [2], [], [], [], []⟩
@[simp] theorem an_span_limited_draws : an_span_limited.draws = [] := rfl
@[simp] theorem an_span_limited_exits : an_span_limited.exits = [] := rfl
@[simp] theorem an_span_limited_rets : an_span_limited.rets = some [2] := rfl
@[simp] theorem an_span_limited_keep : an_span_limited.keep = [2] := rfl
@[simp] theorem an_span_limited_cond : an_span_limited.cond = [] := rfl
@[simp] theorem an_span_limited_rows : an_span_limited.rows = [] := rfl
@[simp] theorem an_span_limited_loops : an_span_limited.loops = [] := rfl
@[simp] theorem an_span_limited_ecalls : an_span_limited.ecalls = [] := rfl
@[simp] theorem an_span_limited_crows : an_span_limited.crows = [] := rfl
@[simp] theorem an_span_limited_tails : an_span_limited.tails = [] := rfl
@[simp] noncomputable def cl_span_limited : List (Nat × (List D → Option D)) := []
@[simp] noncomputable def ce_span_limited : List (Nat × (List (Nat × O) → List D → Option (D × List (Nat × O)))) := []
noncomputable def c_span_limited : CT := ⟨callOf (cl_span_limited ), callOfE ce_span_limited, gl⟩
@[simp] theorem c_span_limited_p (f : FuncId) (ds : List D) : c_span_limited.p f ds = callOf (cl_span_limited ) f ds := Eq.trans rfl rfl
@[simp] theorem c_span_limited_e (f : FuncId) (hs : List (Nat × O)) (ds : List D) : c_span_limited.e f hs ds = callOfE ce_span_limited f hs ds := Eq.trans rfl rfl
@[simp] theorem c_span_limited_g (g : Nat) : c_span_limited.g g = gl g := Eq.trans rfl rfl
noncomputable def L_span_limited (i n : Nat) (s : St) : Option (E × St) := atN Tryz.prog c_span_limited an_span_limited 6 (bodyOf Tryz.f63) i n s
noncomputable def H_span_limited (n i : Nat) (s : St) : Option (E × St) := atH Tryz.prog c_span_limited an_span_limited 6 (bodyOf Tryz.f63) n i s
@[simp] theorem H_span_limited_eq (n i : Nat) (s : St) : H_span_limited n i s = L_span_limited i n (headOf (an_span_limited.loops.lookup i) s) := rfl
noncomputable def R_span_limited (i : Nat) (s : St) : Option (E × St) := stepL Tryz.prog c_span_limited an_span_limited 6 (bodyOf Tryz.f63) i s
theorem lok_span_limited : okLoops (bodyOf Tryz.f63) = true := by kernel_rfl
noncomputable def F_span_limited (ds : List D) : Option D := runF Tryz.prog c_span_limited an_span_limited 6 (bodyOf Tryz.f63) [.tmp 2] ds
theorem F_span_limited_eq (ds : List D) : F_span_limited ds = runG Tryz.prog c_span_limited (H_span_limited bigL) an_span_limited 6 (bodyOf Tryz.f63) [.tmp 2] ds := runG_eq lok_span_limited _ ds
theorem C_span_limited (ds : List D) (r : D) (h : F_span_limited ds = some r) : Contract Tryz.prog gl 63 ds r := contract_of mix Tryz.func63 rfl (by kernel_rfl) (by kernel_rfl) (by decide) (call := c_span_limited) ⟨callOf_ok cl_span_limited trivial, callOfE_ok ce_span_limited trivial⟩ h
-- sawmill/span.Len: loops []; state: params 0..0, then [1, 2]
attribute [simp] Tryz.f38
noncomputable def an_span_Len : Ann := ⟨[1, 2], [], [], [], [], some [2], [], [], [], []⟩
@[simp] theorem an_span_Len_draws : an_span_Len.draws = [] := rfl
@[simp] theorem an_span_Len_exits : an_span_Len.exits = [] := rfl
@[simp] theorem an_span_Len_rets : an_span_Len.rets = some [2] := rfl
@[simp] theorem an_span_Len_keep : an_span_Len.keep = [1, 2] := rfl
@[simp] theorem an_span_Len_cond : an_span_Len.cond = [] := rfl
@[simp] theorem an_span_Len_rows : an_span_Len.rows = [] := rfl
@[simp] theorem an_span_Len_loops : an_span_Len.loops = [] := rfl
@[simp] theorem an_span_Len_ecalls : an_span_Len.ecalls = [] := rfl
@[simp] theorem an_span_Len_crows : an_span_Len.crows = [] := rfl
@[simp] theorem an_span_Len_tails : an_span_Len.tails = [] := rfl
@[simp] noncomputable def cl_span_Len : List (Nat × (List D → Option D)) := [(63, F_span_limited), (64, F_span_size)]
@[simp] noncomputable def ce_span_Len : List (Nat × (List (Nat × O) → List D → Option (D × List (Nat × O)))) := []
noncomputable def c_span_Len : CT := ⟨callOf (cl_span_Len ), callOfE ce_span_Len, gl⟩
@[simp] theorem c_span_Len_p (f : FuncId) (ds : List D) : c_span_Len.p f ds = callOf (cl_span_Len ) f ds := Eq.trans rfl rfl
@[simp] theorem c_span_Len_e (f : FuncId) (hs : List (Nat × O)) (ds : List D) : c_span_Len.e f hs ds = callOfE ce_span_Len f hs ds := Eq.trans rfl rfl
@[simp] theorem c_span_Len_g (g : Nat) : c_span_Len.g g = gl g := Eq.trans rfl rfl
noncomputable def L_span_Len (i n : Nat) (s : St) : Option (E × St) := atN Tryz.prog c_span_Len an_span_Len 6 (bodyOf Tryz.f38) i n s
noncomputable def H_span_Len (n i : Nat) (s : St) : Option (E × St) := atH Tryz.prog c_span_Len an_span_Len 6 (bodyOf Tryz.f38) n i s
@[simp] theorem H_span_Len_eq (n i : Nat) (s : St) : H_span_Len n i s = L_span_Len i n (headOf (an_span_Len.loops.lookup i) s) := rfl
noncomputable def R_span_Len (i : Nat) (s : St) : Option (E × St) := stepL Tryz.prog c_span_Len an_span_Len 6 (bodyOf Tryz.f38) i s
theorem lok_span_Len : okLoops (bodyOf Tryz.f38) = true := by kernel_rfl
noncomputable def F_span_Len (ds : List D) : Option D := runF Tryz.prog c_span_Len an_span_Len 6 (bodyOf Tryz.f38) [.tmp 2] ds
theorem F_span_Len_eq (ds : List D) : F_span_Len ds = runG Tryz.prog c_span_Len (H_span_Len bigL) an_span_Len 6 (bodyOf Tryz.f38) [.tmp 2] ds := runG_eq lok_span_Len _ ds
theorem C_span_Len (ds : List D) (r : D) (h : F_span_Len ds = some r) : Contract Tryz.prog gl 38 ds r := contract_of mix Tryz.func38 rfl (by kernel_rfl) (by kernel_rfl) (by decide) (call := c_span_Len) ⟨callOf_ok cl_span_Len ⟨C_span_limited, C_span_size, trivial⟩, callOfE_ok ce_span_Len trivial⟩ h
-- sawmill/charge.thickness: loops []; state: params 0..0, then [1, 2]
attribute [simp] Tryz.f20
noncomputable def an_charge_thickness : Ann := ⟨[1, 2], [], [], [], [], some [2], [(1, 7)], [], [], []⟩
@[simp] theorem an_charge_thickness_draws : an_charge_thickness.draws = [(1, 7)] := rfl
@[simp] theorem an_charge_thickness_exits : an_charge_thickness.exits = [] := rfl
@[simp] theorem an_charge_thickness_rets : an_charge_thickness.rets = some [2] := rfl
@[simp] theorem an_charge_thickness_keep : an_charge_thickness.keep = [1, 2] := rfl
@[simp] theorem an_charge_thickness_cond : an_charge_thickness.cond = [] := rfl
@[simp] theorem an_charge_thickness_rows : an_charge_thickness.rows = [] := rfl
@[simp] theorem an_charge_thickness_loops : an_charge_thickness.loops = [] := rfl
@[simp] theorem an_charge_thickness_ecalls : an_charge_thickness.ecalls = [] := rfl
@[simp] theorem an_charge_thickness_crows : an_charge_thickness.crows = [] := rfl
@[simp] theorem an_charge_thickness_tails : an_charge_thickness.tails = [] := rfl
@[simp] noncomputable def cl_charge_thickness : List (Nat × (List D → Option D)) := [(38, F_span_Len)]
@[simp] noncomputable def ce_charge_thickness : List (Nat × (List (Nat × O) → List D → Option (D × List (Nat × O)))) := []
noncomputable def c_charge_thickness : CT := ⟨callOf (cl_charge_thickness ), callOfE ce_charge_thickness, gl⟩
@[simp] theorem c_charge_thickness_p (f : FuncId) (ds : List D) : c_charge_thickness.p f ds = callOf (cl_charge_thickness ) f ds := Eq.trans rfl rfl
@[simp] theorem c_charge_thickness_e (f : FuncId) (hs : List (Nat × O)) (ds : List D) : c_charge_thickness.e f hs ds = callOfE ce_charge_thickness f hs ds := Eq.trans rfl rfl
@[simp] theorem c_charge_thickness_g (g : Nat) : c_charge_thickness.g g = gl g := Eq.trans rfl rfl
noncomputable def L_charge_thickness (i n : Nat) (s : St) : Option (E × St) := atN Tryz.prog c_charge_thickness an_charge_thickness 12 (bodyOf Tryz.f20) i n s
noncomputable def H_charge_thickness (n i : Nat) (s : St) : Option (E × St) := atH Tryz.prog c_charge_thickness an_charge_thickness 12 (bodyOf Tryz.f20) n i s
@[simp] theorem H_charge_thickness_eq (n i : Nat) (s : St) : H_charge_thickness n i s = L_charge_thickness i n (headOf (an_charge_thickness.loops.lookup i) s) := rfl
noncomputable def R_charge_thickness (i : Nat) (s : St) : Option (E × St) := stepL Tryz.prog c_charge_thickness an_charge_thickness 12 (bodyOf Tryz.f20) i s
theorem lok_charge_thickness : okLoops (bodyOf Tryz.f20) = true := by kernel_rfl
noncomputable def F_charge_thickness (ds : List D) : Option D := runF Tryz.prog c_charge_thickness an_charge_thickness 12 (bodyOf Tryz.f20) [.tmp 2] ds
theorem F_charge_thickness_eq (ds : List D) : F_charge_thickness ds = runG Tryz.prog c_charge_thickness (H_charge_thickness bigL) an_charge_thickness 12 (bodyOf Tryz.f20) [.tmp 2] ds := runG_eq lok_charge_thickness _ ds
theorem C_charge_thickness (ds : List D) (r : D) (h : F_charge_thickness ds = some r) : Contract Tryz.prog gl 20 ds r := contract_of mix Tryz.func20 rfl (by kernel_rfl) (by kernel_rfl) (by decide) (call := c_charge_thickness) ⟨callOf_ok cl_charge_thickness ⟨C_span_Len, trivial⟩, callOfE_ok ce_charge_thickness trivial⟩ h
-- sawmill/ident.isSmall: loops []; state: params 0..0, then [2]
attribute [simp] Tryz.f65
noncomputable def an_ident_isSmall : Ann := ⟨[2], [], [], [], [], some [2], [], [], [], []⟩
@[simp] theorem an_ident_isSmall_draws : an_ident_isSmall.draws = [] := rfl
@[simp] theorem an_ident_isSmall_exits : an_ident_isSmall.exits = [] := rfl
@[simp] theorem an_ident_isSmall_rets : an_ident_isSmall.rets = some [2] := rfl
@[simp] theorem an_ident_isSmall_keep : an_ident_isSmall.keep = [2] := rfl
@[simp] theorem an_ident_isSmall_cond : an_ident_isSmall.cond = [] := rfl
@[simp] theorem an_ident_isSmall_rows : an_ident_isSmall.rows = [] := rfl
@[simp] theorem an_ident_isSmall_loops : an_ident_isSmall.loops = [] := rfl
@[simp] theorem an_ident_isSmall_ecalls : an_ident_isSmall.ecalls = [] := rfl
@[simp] theorem an_ident_isSmall_crows : an_ident_isSmall.crows = [] := rfl
@[simp] theorem an_ident_isSmall_tails : an_ident_isSmall.tails = [] := rfl
@[simp] noncomputable def cl_ident_isSmall : List (Nat × (List D → Option D)) := []
@[simp] noncomputable def ce_ident_isSmall : List (Nat × (List (Nat × O) → List D → Option (D × List (Nat × O)))) := []
noncomputable def c_ident_isSmall : CT := ⟨callOf (cl_ident_isSmall ), callOfE ce_ident_isSmall, gl⟩
@[simp] theorem c_ident_isSmall_p (f : FuncId) (ds : List D) : c_ident_isSmall.p f ds = callOf (cl_ident_isSmall ) f ds := Eq.trans rfl rfl
@[simp] theorem c_ident_isSmall_e (f : FuncId) (hs : List (Nat × O)) (ds : List D) : c_ident_isSmall.e f hs ds = callOfE ce_ident_isSmall f hs ds := Eq.trans rfl rfl
@[simp] theorem c_ident_isSmall_g (g : Nat) : c_ident_isSmall.g g = gl g := Eq.trans rfl rfl
noncomputable def L_ident_isSmall (i n : Nat) (s : St) : Option (E × St) := atN Tryz.prog c_ident_isSmall an_ident_isSmall 9 (bodyOf Tryz.f65) i n s
noncomputable def H_ident_isSmall (n i : Nat) (s : St) : Option (E × St) := atH Tryz.prog c_ident_isSmall an_ident_isSmall 9 (bodyOf Tryz.f65) n i s
@[simp] theorem H_ident_isSmall_eq (n i : Nat) (s : St) : H_ident_isSmall n i s = L_ident_isSmall i n (headOf (an_ident_isSmall.loops.lookup i) s) := rfl
noncomputable def R_ident_isSmall (i : Nat) (s : St) : Option (E × St) := stepL Tryz.prog c_ident_isSmall an_ident_isSmall 9 (bodyOf Tryz.f65) i s
theorem lok_ident_isSmall : okLoops (bodyOf Tryz.f65) = true := by kernel_rfl
noncomputable def F_ident_isSmall (ds : List D) : Option D := runF Tryz.prog c_ident_isSmall an_ident_isSmall 9 (bodyOf Tryz.f65) [.tmp 2] ds
theorem F_ident_isSmall_eq (ds : List D) : F_ident_isSmall ds = runG Tryz.prog c_ident_isSmall (H_ident_isSmall bigL) an_ident_isSmall 9 (bodyOf Tryz.f65) [.tmp 2] ds := runG_eq lok_ident_isSmall _ ds
theorem C_ident_isSmall (ds : List D) (r : D) (h : F_ident_isSmall ds = some r) : Contract Tryz.prog gl 65 ds r := contract_of mix Tryz.func65 rfl (by kernel_rfl) (by kernel_rfl) (by decide) (call := c_ident_isSmall) ⟨callOf_ok cl_ident_isSmall trivial, callOfE_ok ce_ident_isSmall trivial⟩ h
-- sawmill/ident.isDigit: loops []; state: params 0..0, then [2]
attribute [simp] Tryz.f66
noncomputable def an_ident_isDigit : Ann := ⟨[2], [], [], [], [], some [2], [], [], [], []⟩
@[simp] theorem an_ident_isDigit_draws : an_ident_isDigit.draws = [] := rfl
@[simp] theorem an_ident_isDigit_exits : an_ident_isDigit.exits = [] := rfl
@[simp] theorem an_ident_isDigit_rets : an_ident_isDigit.rets = some [2] := rfl
@[simp] theorem an_ident_isDigit_keep : an_ident_isDigit.keep = [2] := rfl
@[simp] theorem an_ident_isDigit_cond : an_ident_isDigit.cond = [] := rfl
@[simp] theorem an_ident_isDigit_rows : an_ident_isDigit.rows = [] := rfl
@[simp] theorem an_ident_isDigit_loops : an_ident_isDigit.loops = [] := rfl
@[simp] theorem an_ident_isDigit_ecalls : an_ident_isDigit.ecalls = [] := rfl
@[simp] theorem an_ident_isDigit_crows : an_ident_isDigit.crows = [] := rfl
@[simp] theorem an_ident_isDigit_tails : an_ident_isDigit.tails = [] := rfl
@[simp] noncomputable def cl_ident_isDigit : List (Nat × (List D → Option D)) := []
@[simp] noncomputable def ce_ident_isDigit : List (Nat × (List (Nat × O) → List D → Option (D × List (Nat × O)))) := []
noncomputable def c_ident_isDigit : CT := ⟨callOf (cl_ident_isDigit ), callOfE ce_ident_isDigit, gl⟩
@[simp] theorem c_ident_isDigit_p (f : FuncId) (ds : List D) : c_ident_isDigit.p f ds = callOf (cl_ident_isDigit ) f ds := Eq.trans rfl rfl
@[simp] theorem c_ident_isDigit_e (f : FuncId) (hs : List (Nat × O)) (ds : List D) : c_ident_isDigit.e f hs ds = callOfE ce_ident_isDigit f hs ds := Eq.trans rfl rfl
@[simp] theorem c_ident_isDigit_g (g : Nat) : c_ident_isDigit.g g = gl g := Eq.trans rfl rfl
noncomputable def L_ident_isDigit (i n : Nat) (s : St) : Option (E × St) := atN Tryz.prog c_ident_isDigit an_ident_isDigit 9 (bodyOf Tryz.f66) i n s
noncomputable def H_ident_isDigit (n i : Nat) (s : St) : Option (E × St) := atH Tryz.prog c_ident_isDigit an_ident_isDigit 9 (bodyOf Tryz.f66) n i s
@[simp] theorem H_ident_isDigit_eq (n i : Nat) (s : St) : H_ident_isDigit n i s = L_ident_isDigit i n (headOf (an_ident_isDigit.loops.lookup i) s) := rfl
noncomputable def R_ident_isDigit (i : Nat) (s : St) : Option (E × St) := stepL Tryz.prog c_ident_isDigit an_ident_isDigit 9 (bodyOf Tryz.f66) i s
theorem lok_ident_isDigit : okLoops (bodyOf Tryz.f66) = true := by kernel_rfl
noncomputable def F_ident_isDigit (ds : List D) : Option D := runF Tryz.prog c_ident_isDigit an_ident_isDigit 9 (bodyOf Tryz.f66) [.tmp 2] ds
theorem F_ident_isDigit_eq (ds : List D) : F_ident_isDigit ds = runG Tryz.prog c_ident_isDigit (H_ident_isDigit bigL) an_ident_isDigit 9 (bodyOf Tryz.f66) [.tmp 2] ds := runG_eq lok_ident_isDigit _ ds
theorem C_ident_isDigit (ds : List D) (r : D) (h : F_ident_isDigit ds = some r) : Contract Tryz.prog gl 66 ds r := contract_of mix Tryz.func66 rfl (by kernel_rfl) (by kernel_rfl) (by decide) (call := c_ident_isDigit) ⟨callOf_ok cl_ident_isDigit trivial, callOfE_ok ce_ident_isDigit trivial⟩ h
-- sawmill/ident.IsName: loops [4]; state: params 0..0, then [2, 3, 4]
attribute [simp] Tryz.f39
noncomputable def an_ident_IsName : Ann := ⟨[0, 2, 3, 4], [18, 22, 39], [], [(4, [0, 3])], [(0, []), (1, [0, 3])], some [2], [], [], [], []⟩
@[simp] theorem an_ident_IsName_draws : an_ident_IsName.draws = [] := rfl
@[simp] theorem an_ident_IsName_exits : an_ident_IsName.exits = [(0, []), (1, [0, 3])] := rfl
@[simp] theorem an_ident_IsName_rets : an_ident_IsName.rets = some [2] := rfl
@[simp] theorem an_ident_IsName_keep : an_ident_IsName.keep = [0, 2, 3, 4] := rfl
@[simp] theorem an_ident_IsName_cond : an_ident_IsName.cond = [18, 22, 39] := rfl
@[simp] theorem an_ident_IsName_rows : an_ident_IsName.rows = [] := rfl
@[simp] theorem an_ident_IsName_loops : an_ident_IsName.loops = [(4, [0, 3])] := rfl
@[simp] theorem an_ident_IsName_ecalls : an_ident_IsName.ecalls = [] := rfl
@[simp] theorem an_ident_IsName_crows : an_ident_IsName.crows = [] := rfl
@[simp] theorem an_ident_IsName_tails : an_ident_IsName.tails = [] := rfl
@[simp] noncomputable def cl_ident_IsName : List (Nat × (List D → Option D)) := [(65, F_ident_isSmall), (66, F_ident_isDigit)]
@[simp] noncomputable def ce_ident_IsName : List (Nat × (List (Nat × O) → List D → Option (D × List (Nat × O)))) := []
noncomputable def c_ident_IsName : CT := ⟨callOf (cl_ident_IsName ), callOfE ce_ident_IsName, gl⟩
@[simp] theorem c_ident_IsName_p (f : FuncId) (ds : List D) : c_ident_IsName.p f ds = callOf (cl_ident_IsName ) f ds := Eq.trans rfl rfl
@[simp] theorem c_ident_IsName_e (f : FuncId) (hs : List (Nat × O)) (ds : List D) : c_ident_IsName.e f hs ds = callOfE ce_ident_IsName f hs ds := Eq.trans rfl rfl
@[simp] theorem c_ident_IsName_g (g : Nat) : c_ident_IsName.g g = gl g := Eq.trans rfl rfl
noncomputable def L_ident_IsName (i n : Nat) (s : St) : Option (E × St) := atN Tryz.prog c_ident_IsName an_ident_IsName 40 (bodyOf Tryz.f39) i n s
noncomputable def H_ident_IsName (n i : Nat) (s : St) : Option (E × St) := atH Tryz.prog c_ident_IsName an_ident_IsName 40 (bodyOf Tryz.f39) n i s
@[simp] theorem H_ident_IsName_eq (n i : Nat) (s : St) : H_ident_IsName n i s = L_ident_IsName i n (headOf (an_ident_IsName.loops.lookup i) s) := rfl
noncomputable def R_ident_IsName (i : Nat) (s : St) : Option (E × St) := stepL Tryz.prog c_ident_IsName an_ident_IsName 40 (bodyOf Tryz.f39) i s
theorem lok_ident_IsName : okLoops (bodyOf Tryz.f39) = true := by kernel_rfl
theorem L_ident_IsName_zero (i : Nat) (s : St) : L_ident_IsName i 0 s = none := rfl
theorem L_ident_IsName_succ (i n : Nat) (s : St) : L_ident_IsName i (n + 1) s = andThen (R_ident_IsName i s) (H_ident_IsName n i) := atN_succ lok_ident_IsName i n s
theorem R_ident_IsName_eq (i : Nat) (s : St) : R_ident_IsName i s = runS Tryz.prog c_ident_IsName (H_ident_IsName bigL) an_ident_IsName 40 (loopAt (bodyOf Tryz.f39) i) s := rfl
noncomputable def F_ident_IsName (ds : List D) : Option D := runF Tryz.prog c_ident_IsName an_ident_IsName 40 (bodyOf Tryz.f39) [.tmp 2] ds
theorem F_ident_IsName_eq (ds : List D) : F_ident_IsName ds = runG Tryz.prog c_ident_IsName (H_ident_IsName bigL) an_ident_IsName 40 (bodyOf Tryz.f39) [.tmp 2] ds := runG_eq lok_ident_IsName _ ds
theorem C_ident_IsName (ds : List D) (r : D) (h : F_ident_IsName ds = some r) : Contract Tryz.prog gl 39 ds r := contract_of mix Tryz.func39 rfl (by kernel_rfl) (by kernel_rfl) (by decide) (call := c_ident_IsName) ⟨callOf_ok cl_ident_IsName ⟨C_ident_isSmall, C_ident_isDigit, trivial⟩, callOfE_ok ce_ident_IsName trivial⟩ h
-- sawmill/schedule.sound: loops []; state: params 0..0, then [1, 2]
attribute [simp] Tryz.f40
noncomputable def an_schedule_sound : Ann := ⟨[1, 2], [], [], [], [], some [2], [], [], [], []⟩
@[simp] theorem an_schedule_sound_draws : an_schedule_sound.draws = [] := rfl
@[simp] theorem an_schedule_sound_exits : an_schedule_sound.exits = [] := rfl
@[simp] theorem an_schedule_sound_rets : an_schedule_sound.rets = some [2] := rfl
@[simp] theorem an_schedule_sound_keep : an_schedule_sound.keep = [1, 2] := rfl
@[simp] theorem an_schedule_sound_cond : an_schedule_sound.cond = [] := rfl
@[simp] theorem an_schedule_sound_rows : an_schedule_sound.rows = [] := rfl
@[simp] theorem an_schedule_sound_loops : an_schedule_sound.loops = [] := rfl
@[simp] theorem an_schedule_sound_ecalls : an_schedule_sound.ecalls = [] := rfl
@[simp] theorem an_schedule_sound_crows : an_schedule_sound.crows = [] := rfl
@[simp] theorem an_schedule_sound_tails : an_schedule_sound.tails = [] := rfl
@[simp] noncomputable def cl_schedule_sound : List (Nat × (List D → Option D)) := []
@[simp] noncomputable def ce_schedule_sound : List (Nat × (List (Nat × O) → List D → Option (D × List (Nat × O)))) := []
noncomputable def c_schedule_sound : CT := ⟨callOf (cl_schedule_sound ), callOfE ce_schedule_sound, gl⟩
@[simp] theorem c_schedule_sound_p (f : FuncId) (ds : List D) : c_schedule_sound.p f ds = callOf (cl_schedule_sound ) f ds := Eq.trans rfl rfl
@[simp] theorem c_schedule_sound_e (f : FuncId) (hs : List (Nat × O)) (ds : List D) : c_schedule_sound.e f hs ds = callOfE ce_schedule_sound f hs ds := Eq.trans rfl rfl
@[simp] theorem c_schedule_sound_g (g : Nat) : c_schedule_sound.g g = gl g := Eq.trans rfl rfl
noncomputable def L_schedule_sound (i n : Nat) (s : St) : Option (E × St) := atN Tryz.prog c_schedule_sound an_schedule_sound 51 (bodyOf Tryz.f40) i n s
noncomputable def H_schedule_sound (n i : Nat) (s : St) : Option (E × St) := atH Tryz.prog c_schedule_sound an_schedule_sound 51 (bodyOf Tryz.f40) n i s
@[simp] theorem H_schedule_sound_eq (n i : Nat) (s : St) : H_schedule_sound n i s = L_schedule_sound i n (headOf (an_schedule_sound.loops.lookup i) s) := rfl
noncomputable def R_schedule_sound (i : Nat) (s : St) : Option (E × St) := stepL Tryz.prog c_schedule_sound an_schedule_sound 51 (bodyOf Tryz.f40) i s
theorem lok_schedule_sound : okLoops (bodyOf Tryz.f40) = true := by kernel_rfl
noncomputable def F_schedule_sound (ds : List D) : Option D := runF Tryz.prog c_schedule_sound an_schedule_sound 51 (bodyOf Tryz.f40) [.tmp 2] ds
theorem F_schedule_sound_eq (ds : List D) : F_schedule_sound ds = runG Tryz.prog c_schedule_sound (H_schedule_sound bigL) an_schedule_sound 51 (bodyOf Tryz.f40) [.tmp 2] ds := runG_eq lok_schedule_sound _ ds
theorem C_schedule_sound (ds : List D) (r : D) (h : F_schedule_sound ds = some r) : Contract Tryz.prog gl 40 ds r := contract_of mix Tryz.func40 rfl (by kernel_rfl) (by kernel_rfl) (by decide) (call := c_schedule_sound) ⟨callOf_ok cl_schedule_sound trivial, callOfE_ok ce_schedule_sound trivial⟩ h
-- sawmill/schedule.Check: loops [10]; state: params 0..0, then [1, 2, 4, 26, 27, 28]
attribute [simp] Tryz.f21
noncomputable def an_schedule_Check : Ann := ⟨[1, 2, 4, 26, 27, 28], [8, 16, 20, 24, 29, 34], [], [(10, [26, 27, 28])], [(0, []), (1, [26, 27, 28])], some [2], [], [], [], []⟩
@[simp] theorem an_schedule_Check_draws : an_schedule_Check.draws = [] := rfl
@[simp] theorem an_schedule_Check_exits : an_schedule_Check.exits = [(0, []), (1, [26, 27, 28])] := rfl
@[simp] theorem an_schedule_Check_rets : an_schedule_Check.rets = some [2] := rfl
@[simp] theorem an_schedule_Check_keep : an_schedule_Check.keep = [1, 2, 4, 26, 27, 28] := rfl
@[simp] theorem an_schedule_Check_cond : an_schedule_Check.cond = [8, 16, 20, 24, 29, 34] := rfl
@[simp] theorem an_schedule_Check_rows : an_schedule_Check.rows = [] := rfl
@[simp] theorem an_schedule_Check_loops : an_schedule_Check.loops = [(10, [26, 27, 28])] := rfl
@[simp] theorem an_schedule_Check_ecalls : an_schedule_Check.ecalls = [] := rfl
@[simp] theorem an_schedule_Check_crows : an_schedule_Check.crows = [] := rfl
@[simp] theorem an_schedule_Check_tails : an_schedule_Check.tails = [] := rfl
@[simp] noncomputable def cl_schedule_Check : List (Nat × (List D → Option D)) := [(39, F_ident_IsName), (40, F_schedule_sound)]
@[simp] noncomputable def ce_schedule_Check : List (Nat × (List (Nat × O) → List D → Option (D × List (Nat × O)))) := []
noncomputable def c_schedule_Check : CT := ⟨callOf (cl_schedule_Check ), callOfE ce_schedule_Check, gl⟩
@[simp] theorem c_schedule_Check_p (f : FuncId) (ds : List D) : c_schedule_Check.p f ds = callOf (cl_schedule_Check ) f ds := Eq.trans rfl rfl
@[simp] theorem c_schedule_Check_e (f : FuncId) (hs : List (Nat × O)) (ds : List D) : c_schedule_Check.e f hs ds = callOfE ce_schedule_Check f hs ds := Eq.trans rfl rfl
@[simp] theorem c_schedule_Check_g (g : Nat) : c_schedule_Check.g g = gl g := Eq.trans rfl rfl
noncomputable def L_schedule_Check (i n : Nat) (s : St) : Option (E × St) := atN Tryz.prog c_schedule_Check an_schedule_Check 36 (bodyOf Tryz.f21) i n s
noncomputable def H_schedule_Check (n i : Nat) (s : St) : Option (E × St) := atH Tryz.prog c_schedule_Check an_schedule_Check 36 (bodyOf Tryz.f21) n i s
@[simp] theorem H_schedule_Check_eq (n i : Nat) (s : St) : H_schedule_Check n i s = L_schedule_Check i n (headOf (an_schedule_Check.loops.lookup i) s) := rfl
noncomputable def R_schedule_Check (i : Nat) (s : St) : Option (E × St) := stepL Tryz.prog c_schedule_Check an_schedule_Check 36 (bodyOf Tryz.f21) i s
theorem lok_schedule_Check : okLoops (bodyOf Tryz.f21) = true := by kernel_rfl
theorem L_schedule_Check_zero (i : Nat) (s : St) : L_schedule_Check i 0 s = none := rfl
theorem L_schedule_Check_succ (i n : Nat) (s : St) : L_schedule_Check i (n + 1) s = andThen (R_schedule_Check i s) (H_schedule_Check n i) := atN_succ lok_schedule_Check i n s
theorem R_schedule_Check_eq (i : Nat) (s : St) : R_schedule_Check i s = runS Tryz.prog c_schedule_Check (H_schedule_Check bigL) an_schedule_Check 36 (loopAt (bodyOf Tryz.f21) i) s := rfl
noncomputable def F_schedule_Check (ds : List D) : Option D := runF Tryz.prog c_schedule_Check an_schedule_Check 36 (bodyOf Tryz.f21) [.tmp 2] ds
theorem F_schedule_Check_eq (ds : List D) : F_schedule_Check ds = runG Tryz.prog c_schedule_Check (H_schedule_Check bigL) an_schedule_Check 36 (bodyOf Tryz.f21) [.tmp 2] ds := runG_eq lok_schedule_Check _ ds
theorem C_schedule_Check (ds : List D) (r : D) (h : F_schedule_Check ds = some r) : Contract Tryz.prog gl 21 ds r := contract_of mix Tryz.func21 rfl (by kernel_rfl) (by kernel_rfl) (by decide) (call := c_schedule_Check) ⟨callOf_ok cl_schedule_Check ⟨C_ident_IsName, C_schedule_sound, trivial⟩, callOfE_ok ce_schedule_Check trivial⟩ h
-- sawmill/wood.Find: loops [2]; state: params 0..1, then [4, 5, 7, 8, 9, 10]
attribute [simp] Tryz.f41
noncomputable def an_wood_Find : Ann := ⟨[4, 5, 7, 8, 9, 10], [11, 17], [], [(2, [1, 4, 8, 9, 10])], [(0, [4]), (1, [1, 4, 8, 9, 10])], some [4, 5], [], [], [], []⟩
@[simp] theorem an_wood_Find_draws : an_wood_Find.draws = [] := rfl
@[simp] theorem an_wood_Find_exits : an_wood_Find.exits = [(0, [4]), (1, [1, 4, 8, 9, 10])] := rfl
@[simp] theorem an_wood_Find_rets : an_wood_Find.rets = some [4, 5] := rfl
@[simp] theorem an_wood_Find_keep : an_wood_Find.keep = [4, 5, 7, 8, 9, 10] := rfl
@[simp] theorem an_wood_Find_cond : an_wood_Find.cond = [11, 17] := rfl
@[simp] theorem an_wood_Find_rows : an_wood_Find.rows = [] := rfl
@[simp] theorem an_wood_Find_loops : an_wood_Find.loops = [(2, [1, 4, 8, 9, 10])] := rfl
@[simp] theorem an_wood_Find_ecalls : an_wood_Find.ecalls = [] := rfl
@[simp] theorem an_wood_Find_crows : an_wood_Find.crows = [] := rfl
@[simp] theorem an_wood_Find_tails : an_wood_Find.tails = [] := rfl
@[simp] noncomputable def cl_wood_Find : List (Nat × (List D → Option D)) := []
@[simp] noncomputable def ce_wood_Find : List (Nat × (List (Nat × O) → List D → Option (D × List (Nat × O)))) := []
noncomputable def c_wood_Find : CT := ⟨callOf (cl_wood_Find ), callOfE ce_wood_Find, gl⟩
@[simp] theorem c_wood_Find_p (f : FuncId) (ds : List D) : c_wood_Find.p f ds = callOf (cl_wood_Find ) f ds := Eq.trans rfl rfl
@[simp] theorem c_wood_Find_e (f : FuncId) (hs : List (Nat × O)) (ds : List D) : c_wood_Find.e f hs ds = callOfE ce_wood_Find f hs ds := Eq.trans rfl rfl
@[simp] theorem c_wood_Find_g (g : Nat) : c_wood_Find.g g = gl g := Eq.trans rfl rfl
noncomputable def L_wood_Find (i n : Nat) (s : St) : Option (E × St) := atN Tryz.prog c_wood_Find an_wood_Find 21 (bodyOf Tryz.f41) i n s
noncomputable def H_wood_Find (n i : Nat) (s : St) : Option (E × St) := atH Tryz.prog c_wood_Find an_wood_Find 21 (bodyOf Tryz.f41) n i s
@[simp] theorem H_wood_Find_eq (n i : Nat) (s : St) : H_wood_Find n i s = L_wood_Find i n (headOf (an_wood_Find.loops.lookup i) s) := rfl
noncomputable def R_wood_Find (i : Nat) (s : St) : Option (E × St) := stepL Tryz.prog c_wood_Find an_wood_Find 21 (bodyOf Tryz.f41) i s
theorem lok_wood_Find : okLoops (bodyOf Tryz.f41) = true := by kernel_rfl
theorem L_wood_Find_zero (i : Nat) (s : St) : L_wood_Find i 0 s = none := rfl
theorem L_wood_Find_succ (i n : Nat) (s : St) : L_wood_Find i (n + 1) s = andThen (R_wood_Find i s) (H_wood_Find n i) := atN_succ lok_wood_Find i n s
theorem R_wood_Find_eq (i : Nat) (s : St) : R_wood_Find i s = runS Tryz.prog c_wood_Find (H_wood_Find bigL) an_wood_Find 21 (loopAt (bodyOf Tryz.f41) i) s := rfl
noncomputable def F_wood_Find (ds : List D) : Option D := runF Tryz.prog c_wood_Find an_wood_Find 21 (bodyOf Tryz.f41) [.cell 4 24, .tmp 5] ds
theorem F_wood_Find_eq (ds : List D) : F_wood_Find ds = runG Tryz.prog c_wood_Find (H_wood_Find bigL) an_wood_Find 21 (bodyOf Tryz.f41) [.cell 4 24, .tmp 5] ds := runG_eq lok_wood_Find _ ds
theorem C_wood_Find (ds : List D) (r : D) (h : F_wood_Find ds = some r) : Contract Tryz.prog gl 41 ds r := contract_of mix Tryz.func41 rfl (by kernel_rfl) (by kernel_rfl) (by decide) (call := c_wood_Find) ⟨callOf_ok cl_wood_Find trivial, callOfE_ok ce_wood_Find trivial⟩ h
-- sawmill/wood.numbers: loops []; state: params 0..0, then [1, 2]
attribute [simp] Tryz.f67
noncomputable def an_wood_numbers : Ann := ⟨[1, 2], [], [], [], [], some [2], [], [], [], []⟩
@[simp] theorem an_wood_numbers_draws : an_wood_numbers.draws = [] := rfl
@[simp] theorem an_wood_numbers_exits : an_wood_numbers.exits = [] := rfl
@[simp] theorem an_wood_numbers_rets : an_wood_numbers.rets = some [2] := rfl
@[simp] theorem an_wood_numbers_keep : an_wood_numbers.keep = [1, 2] := rfl
@[simp] theorem an_wood_numbers_cond : an_wood_numbers.cond = [] := rfl
@[simp] theorem an_wood_numbers_rows : an_wood_numbers.rows = [] := rfl
@[simp] theorem an_wood_numbers_loops : an_wood_numbers.loops = [] := rfl
@[simp] theorem an_wood_numbers_ecalls : an_wood_numbers.ecalls = [] := rfl
@[simp] theorem an_wood_numbers_crows : an_wood_numbers.crows = [] := rfl
@[simp] theorem an_wood_numbers_tails : an_wood_numbers.tails = [] := rfl
@[simp] noncomputable def cl_wood_numbers : List (Nat × (List D → Option D)) := []
@[simp] noncomputable def ce_wood_numbers : List (Nat × (List (Nat × O) → List D → Option (D × List (Nat × O)))) := []
noncomputable def c_wood_numbers : CT := ⟨callOf (cl_wood_numbers ), callOfE ce_wood_numbers, gl⟩
@[simp] theorem c_wood_numbers_p (f : FuncId) (ds : List D) : c_wood_numbers.p f ds = callOf (cl_wood_numbers ) f ds := Eq.trans rfl rfl
@[simp] theorem c_wood_numbers_e (f : FuncId) (hs : List (Nat × O)) (ds : List D) : c_wood_numbers.e f hs ds = callOfE ce_wood_numbers f hs ds := Eq.trans rfl rfl
@[simp] theorem c_wood_numbers_g (g : Nat) : c_wood_numbers.g g = gl g := Eq.trans rfl rfl
noncomputable def L_wood_numbers (i n : Nat) (s : St) : Option (E × St) := atN Tryz.prog c_wood_numbers an_wood_numbers 28 (bodyOf Tryz.f67) i n s
noncomputable def H_wood_numbers (n i : Nat) (s : St) : Option (E × St) := atH Tryz.prog c_wood_numbers an_wood_numbers 28 (bodyOf Tryz.f67) n i s
@[simp] theorem H_wood_numbers_eq (n i : Nat) (s : St) : H_wood_numbers n i s = L_wood_numbers i n (headOf (an_wood_numbers.loops.lookup i) s) := rfl
noncomputable def R_wood_numbers (i : Nat) (s : St) : Option (E × St) := stepL Tryz.prog c_wood_numbers an_wood_numbers 28 (bodyOf Tryz.f67) i s
theorem lok_wood_numbers : okLoops (bodyOf Tryz.f67) = true := by kernel_rfl
noncomputable def F_wood_numbers (ds : List D) : Option D := runF Tryz.prog c_wood_numbers an_wood_numbers 28 (bodyOf Tryz.f67) [.cell 2 125] ds
theorem F_wood_numbers_eq (ds : List D) : F_wood_numbers ds = runG Tryz.prog c_wood_numbers (H_wood_numbers bigL) an_wood_numbers 28 (bodyOf Tryz.f67) [.cell 2 125] ds := runG_eq lok_wood_numbers _ ds
theorem C_wood_numbers (ds : List D) (r : D) (h : F_wood_numbers ds = some r) : Contract Tryz.prog gl 67 ds r := contract_of mix Tryz.func67 rfl (by kernel_rfl) (by kernel_rfl) (by decide) (call := c_wood_numbers) ⟨callOf_ok cl_wood_numbers trivial, callOfE_ok ce_wood_numbers trivial⟩ h
-- sawmill/wood.inRange: loops [3]; state: params 0..0, then [1, 2, 3, 4, 5, 24, 25]
attribute [simp] Tryz.f42
noncomputable def an_wood_inRange : Ann := ⟨[1, 2, 3, 4, 5, 24, 25], [26, 42], [], [(3, [3, 24, 25])], [(0, []), (1, [3, 24, 25])], some [2], [], [], [], []⟩
@[simp] theorem an_wood_inRange_draws : an_wood_inRange.draws = [] := rfl
@[simp] theorem an_wood_inRange_exits : an_wood_inRange.exits = [(0, []), (1, [3, 24, 25])] := rfl
@[simp] theorem an_wood_inRange_rets : an_wood_inRange.rets = some [2] := rfl
@[simp] theorem an_wood_inRange_keep : an_wood_inRange.keep = [1, 2, 3, 4, 5, 24, 25] := rfl
@[simp] theorem an_wood_inRange_cond : an_wood_inRange.cond = [26, 42] := rfl
@[simp] theorem an_wood_inRange_rows : an_wood_inRange.rows = [] := rfl
@[simp] theorem an_wood_inRange_loops : an_wood_inRange.loops = [(3, [3, 24, 25])] := rfl
@[simp] theorem an_wood_inRange_ecalls : an_wood_inRange.ecalls = [] := rfl
@[simp] theorem an_wood_inRange_crows : an_wood_inRange.crows = [] := rfl
@[simp] theorem an_wood_inRange_tails : an_wood_inRange.tails = [] := rfl
@[simp] noncomputable def cl_wood_inRange : List (Nat × (List D → Option D)) := [(67, F_wood_numbers)]
@[simp] noncomputable def ce_wood_inRange : List (Nat × (List (Nat × O) → List D → Option (D × List (Nat × O)))) := []
noncomputable def c_wood_inRange : CT := ⟨callOf (cl_wood_inRange ), callOfE ce_wood_inRange, gl⟩
@[simp] theorem c_wood_inRange_p (f : FuncId) (ds : List D) : c_wood_inRange.p f ds = callOf (cl_wood_inRange ) f ds := Eq.trans rfl rfl
@[simp] theorem c_wood_inRange_e (f : FuncId) (hs : List (Nat × O)) (ds : List D) : c_wood_inRange.e f hs ds = callOfE ce_wood_inRange f hs ds := Eq.trans rfl rfl
@[simp] theorem c_wood_inRange_g (g : Nat) : c_wood_inRange.g g = gl g := Eq.trans rfl rfl
noncomputable def L_wood_inRange (i n : Nat) (s : St) : Option (E × St) := atN Tryz.prog c_wood_inRange an_wood_inRange 44 (bodyOf Tryz.f42) i n s
noncomputable def H_wood_inRange (n i : Nat) (s : St) : Option (E × St) := atH Tryz.prog c_wood_inRange an_wood_inRange 44 (bodyOf Tryz.f42) n i s
@[simp] theorem H_wood_inRange_eq (n i : Nat) (s : St) : H_wood_inRange n i s = L_wood_inRange i n (headOf (an_wood_inRange.loops.lookup i) s) := rfl
noncomputable def R_wood_inRange (i : Nat) (s : St) : Option (E × St) := stepL Tryz.prog c_wood_inRange an_wood_inRange 44 (bodyOf Tryz.f42) i s
theorem lok_wood_inRange : okLoops (bodyOf Tryz.f42) = true := by kernel_rfl
theorem L_wood_inRange_zero (i : Nat) (s : St) : L_wood_inRange i 0 s = none := rfl
theorem L_wood_inRange_succ (i n : Nat) (s : St) : L_wood_inRange i (n + 1) s = andThen (R_wood_inRange i s) (H_wood_inRange n i) := atN_succ lok_wood_inRange i n s
theorem R_wood_inRange_eq (i : Nat) (s : St) : R_wood_inRange i s = runS Tryz.prog c_wood_inRange (H_wood_inRange bigL) an_wood_inRange 44 (loopAt (bodyOf Tryz.f42) i) s := rfl
noncomputable def F_wood_inRange (ds : List D) : Option D := runF Tryz.prog c_wood_inRange an_wood_inRange 44 (bodyOf Tryz.f42) [.tmp 2] ds
theorem F_wood_inRange_eq (ds : List D) : F_wood_inRange ds = runG Tryz.prog c_wood_inRange (H_wood_inRange bigL) an_wood_inRange 44 (bodyOf Tryz.f42) [.tmp 2] ds := runG_eq lok_wood_inRange _ ds
theorem C_wood_inRange (ds : List D) (r : D) (h : F_wood_inRange ds = some r) : Contract Tryz.prog gl 42 ds r := contract_of mix Tryz.func42 rfl (by kernel_rfl) (by kernel_rfl) (by decide) (call := c_wood_inRange) ⟨callOf_ok cl_wood_inRange ⟨C_wood_numbers, trivial⟩, callOfE_ok ce_wood_inRange trivial⟩ h
-- sawmill/wood.Check: loops [4]; state: params 0..0, then [2, 3, 4, 6, 10, 11, 12]
attribute [simp] Tryz.f22
noncomputable def an_wood_Check : Ann := ⟨[0, 2, 3, 4, 6, 10, 11, 12], [9, 13, 20, 30, 33], [], [(4, [0, 10, 11, 12])], [(0, []), (1, [0, 10, 11, 12])], some [2], [(8, 11)], [], [], []⟩
@[simp] theorem an_wood_Check_draws : an_wood_Check.draws = [(8, 11)] := rfl
@[simp] theorem an_wood_Check_exits : an_wood_Check.exits = [(0, []), (1, [0, 10, 11, 12])] := rfl
@[simp] theorem an_wood_Check_rets : an_wood_Check.rets = some [2] := rfl
@[simp] theorem an_wood_Check_keep : an_wood_Check.keep = [0, 2, 3, 4, 6, 10, 11, 12] := rfl
@[simp] theorem an_wood_Check_cond : an_wood_Check.cond = [9, 13, 20, 30, 33] := rfl
@[simp] theorem an_wood_Check_rows : an_wood_Check.rows = [] := rfl
@[simp] theorem an_wood_Check_loops : an_wood_Check.loops = [(4, [0, 10, 11, 12])] := rfl
@[simp] theorem an_wood_Check_ecalls : an_wood_Check.ecalls = [] := rfl
@[simp] theorem an_wood_Check_crows : an_wood_Check.crows = [] := rfl
@[simp] theorem an_wood_Check_tails : an_wood_Check.tails = [] := rfl
@[simp] noncomputable def cl_wood_Check : List (Nat × (List D → Option D)) := [(39, F_ident_IsName), (41, F_wood_Find), (42, F_wood_inRange)]
@[simp] noncomputable def ce_wood_Check : List (Nat × (List (Nat × O) → List D → Option (D × List (Nat × O)))) := []
noncomputable def c_wood_Check : CT := ⟨callOf (cl_wood_Check ), callOfE ce_wood_Check, gl⟩
@[simp] theorem c_wood_Check_p (f : FuncId) (ds : List D) : c_wood_Check.p f ds = callOf (cl_wood_Check ) f ds := Eq.trans rfl rfl
@[simp] theorem c_wood_Check_e (f : FuncId) (hs : List (Nat × O)) (ds : List D) : c_wood_Check.e f hs ds = callOfE ce_wood_Check f hs ds := Eq.trans rfl rfl
@[simp] theorem c_wood_Check_g (g : Nat) : c_wood_Check.g g = gl g := Eq.trans rfl rfl
noncomputable def L_wood_Check (i n : Nat) (s : St) : Option (E × St) := atN Tryz.prog c_wood_Check an_wood_Check 35 (bodyOf Tryz.f22) i n s
noncomputable def H_wood_Check (n i : Nat) (s : St) : Option (E × St) := atH Tryz.prog c_wood_Check an_wood_Check 35 (bodyOf Tryz.f22) n i s
@[simp] theorem H_wood_Check_eq (n i : Nat) (s : St) : H_wood_Check n i s = L_wood_Check i n (headOf (an_wood_Check.loops.lookup i) s) := rfl
noncomputable def R_wood_Check (i : Nat) (s : St) : Option (E × St) := stepL Tryz.prog c_wood_Check an_wood_Check 35 (bodyOf Tryz.f22) i s
theorem lok_wood_Check : okLoops (bodyOf Tryz.f22) = true := by kernel_rfl
theorem L_wood_Check_zero (i : Nat) (s : St) : L_wood_Check i 0 s = none := rfl
theorem L_wood_Check_succ (i n : Nat) (s : St) : L_wood_Check i (n + 1) s = andThen (R_wood_Check i s) (H_wood_Check n i) := atN_succ lok_wood_Check i n s
theorem R_wood_Check_eq (i : Nat) (s : St) : R_wood_Check i s = runS Tryz.prog c_wood_Check (H_wood_Check bigL) an_wood_Check 35 (loopAt (bodyOf Tryz.f22) i) s := rfl
noncomputable def F_wood_Check (ds : List D) : Option D := runF Tryz.prog c_wood_Check an_wood_Check 35 (bodyOf Tryz.f22) [.tmp 2] ds
theorem F_wood_Check_eq (ds : List D) : F_wood_Check ds = runG Tryz.prog c_wood_Check (H_wood_Check bigL) an_wood_Check 35 (bodyOf Tryz.f22) [.tmp 2] ds := runG_eq lok_wood_Check _ ds
theorem C_wood_Check (ds : List D) (r : D) (h : F_wood_Check ds = some r) : Contract Tryz.prog gl 22 ds r := contract_of mix Tryz.func22 rfl (by kernel_rfl) (by kernel_rfl) (by decide) (call := c_wood_Check) ⟨callOf_ok cl_wood_Check ⟨C_ident_IsName, C_wood_Find, C_wood_inRange, trivial⟩, callOfE_ok ce_wood_Check trivial⟩ h
-- sawmill/charge.Check: loops [6]; state: params 0..2, then [4, 5, 6, 8, 9, 10, 11, 18, 19, 20]
attribute [simp] Tryz.f7
noncomputable def an_charge_Check : Ann := ⟨[0, 4, 5, 6, 8, 9, 10, 11, 18, 19, 20], [14, 17, 21, 28, 30, 35, 44, 49], [], [(6, [4, 5, 18, 19, 20])], [(0, [4, 5]), (1, [4, 5, 18, 19, 20])], some [6], [], [], [], []⟩
@[simp] theorem an_charge_Check_draws : an_charge_Check.draws = [] := rfl
@[simp] theorem an_charge_Check_exits : an_charge_Check.exits = [(0, [4, 5]), (1, [4, 5, 18, 19, 20])] := rfl
@[simp] theorem an_charge_Check_rets : an_charge_Check.rets = some [6] := rfl
@[simp] theorem an_charge_Check_keep : an_charge_Check.keep = [0, 4, 5, 6, 8, 9, 10, 11, 18, 19, 20] := rfl
@[simp] theorem an_charge_Check_cond : an_charge_Check.cond = [14, 17, 21, 28, 30, 35, 44, 49] := rfl
@[simp] theorem an_charge_Check_rows : an_charge_Check.rows = [] := rfl
@[simp] theorem an_charge_Check_loops : an_charge_Check.loops = [(6, [4, 5, 18, 19, 20])] := rfl
@[simp] theorem an_charge_Check_ecalls : an_charge_Check.ecalls = [] := rfl
@[simp] theorem an_charge_Check_crows : an_charge_Check.crows = [] := rfl
@[simp] theorem an_charge_Check_tails : an_charge_Check.tails = [] := rfl
@[simp] noncomputable def cl_charge_Check : List (Nat × (List D → Option D)) := [(19, F_moist_Check), (20, F_charge_thickness), (21, F_schedule_Check), (22, F_wood_Check)]
@[simp] noncomputable def ce_charge_Check : List (Nat × (List (Nat × O) → List D → Option (D × List (Nat × O)))) := []
noncomputable def c_charge_Check : CT := ⟨callOf (cl_charge_Check ), callOfE ce_charge_Check, gl⟩
@[simp] theorem c_charge_Check_p (f : FuncId) (ds : List D) : c_charge_Check.p f ds = callOf (cl_charge_Check ) f ds := Eq.trans rfl rfl
@[simp] theorem c_charge_Check_e (f : FuncId) (hs : List (Nat × O)) (ds : List D) : c_charge_Check.e f hs ds = callOfE ce_charge_Check f hs ds := Eq.trans rfl rfl
@[simp] theorem c_charge_Check_g (g : Nat) : c_charge_Check.g g = gl g := Eq.trans rfl rfl
noncomputable def L_charge_Check (i n : Nat) (s : St) : Option (E × St) := atN Tryz.prog c_charge_Check an_charge_Check 54 (bodyOf Tryz.f7) i n s
noncomputable def H_charge_Check (n i : Nat) (s : St) : Option (E × St) := atH Tryz.prog c_charge_Check an_charge_Check 54 (bodyOf Tryz.f7) n i s
@[simp] theorem H_charge_Check_eq (n i : Nat) (s : St) : H_charge_Check n i s = L_charge_Check i n (headOf (an_charge_Check.loops.lookup i) s) := rfl
noncomputable def R_charge_Check (i : Nat) (s : St) : Option (E × St) := stepL Tryz.prog c_charge_Check an_charge_Check 54 (bodyOf Tryz.f7) i s
theorem lok_charge_Check : okLoops (bodyOf Tryz.f7) = true := by kernel_rfl
theorem L_charge_Check_zero (i : Nat) (s : St) : L_charge_Check i 0 s = none := rfl
theorem L_charge_Check_succ (i n : Nat) (s : St) : L_charge_Check i (n + 1) s = andThen (R_charge_Check i s) (H_charge_Check n i) := atN_succ lok_charge_Check i n s
theorem R_charge_Check_eq (i : Nat) (s : St) : R_charge_Check i s = runS Tryz.prog c_charge_Check (H_charge_Check bigL) an_charge_Check 54 (loopAt (bodyOf Tryz.f7) i) s := rfl
noncomputable def F_charge_Check (ds : List D) : Option D := runF Tryz.prog c_charge_Check an_charge_Check 54 (bodyOf Tryz.f7) [.tmp 6] ds
theorem F_charge_Check_eq (ds : List D) : F_charge_Check ds = runG Tryz.prog c_charge_Check (H_charge_Check bigL) an_charge_Check 54 (bodyOf Tryz.f7) [.tmp 6] ds := runG_eq lok_charge_Check _ ds
theorem C_charge_Check (ds : List D) (r : D) (h : F_charge_Check ds = some r) : Contract Tryz.prog gl 7 ds r := contract_of mix Tryz.func7 rfl (by kernel_rfl) (by kernel_rfl) (by decide) (call := c_charge_Check) ⟨callOf_ok cl_charge_Check ⟨C_moist_Check, C_charge_thickness, C_schedule_Check, C_wood_Check, trivial⟩, callOfE_ok ce_charge_Check trivial⟩ h
-- slices.Clone[[]sawmill/api.Stage,sawmill/api.Stage]: loops []; state: params 0..0, then [2]
attribute [simp] Tryz.f70
noncomputable def an_slices_Clone_api_Stage_api_Stage : Ann := ⟨[0, 2], [4], [5], [], [], some [2], [], [], [], []⟩
@[simp] theorem an_slices_Clone_api_Stage_api_Stage_draws : an_slices_Clone_api_Stage_api_Stage.draws = [] := rfl
@[simp] theorem an_slices_Clone_api_Stage_api_Stage_exits : an_slices_Clone_api_Stage_api_Stage.exits = [] := rfl
@[simp] theorem an_slices_Clone_api_Stage_api_Stage_rets : an_slices_Clone_api_Stage_api_Stage.rets = some [2] := rfl
@[simp] theorem an_slices_Clone_api_Stage_api_Stage_keep : an_slices_Clone_api_Stage_api_Stage.keep = [0, 2] := rfl
@[simp] theorem an_slices_Clone_api_Stage_api_Stage_cond : an_slices_Clone_api_Stage_api_Stage.cond = [4] := rfl
@[simp] theorem an_slices_Clone_api_Stage_api_Stage_rows : an_slices_Clone_api_Stage_api_Stage.rows = [5] := rfl
@[simp] theorem an_slices_Clone_api_Stage_api_Stage_loops : an_slices_Clone_api_Stage_api_Stage.loops = [] := rfl
@[simp] theorem an_slices_Clone_api_Stage_api_Stage_ecalls : an_slices_Clone_api_Stage_api_Stage.ecalls = [] := rfl
@[simp] theorem an_slices_Clone_api_Stage_api_Stage_crows : an_slices_Clone_api_Stage_api_Stage.crows = [] := rfl
@[simp] theorem an_slices_Clone_api_Stage_api_Stage_tails : an_slices_Clone_api_Stage_api_Stage.tails = [] := rfl
@[simp] noncomputable def cl_slices_Clone_api_Stage_api_Stage : List (Nat × (List D → Option D)) := []
@[simp] noncomputable def ce_slices_Clone_api_Stage_api_Stage : List (Nat × (List (Nat × O) → List D → Option (D × List (Nat × O)))) := []
noncomputable def c_slices_Clone_api_Stage_api_Stage : CT := ⟨callOf (cl_slices_Clone_api_Stage_api_Stage ), callOfE ce_slices_Clone_api_Stage_api_Stage, gl⟩
@[simp] theorem c_slices_Clone_api_Stage_api_Stage_p (f : FuncId) (ds : List D) : c_slices_Clone_api_Stage_api_Stage.p f ds = callOf (cl_slices_Clone_api_Stage_api_Stage ) f ds := Eq.trans rfl rfl
@[simp] theorem c_slices_Clone_api_Stage_api_Stage_e (f : FuncId) (hs : List (Nat × O)) (ds : List D) : c_slices_Clone_api_Stage_api_Stage.e f hs ds = callOfE ce_slices_Clone_api_Stage_api_Stage f hs ds := Eq.trans rfl rfl
@[simp] theorem c_slices_Clone_api_Stage_api_Stage_g (g : Nat) : c_slices_Clone_api_Stage_api_Stage.g g = gl g := Eq.trans rfl rfl
noncomputable def L_slices_Clone_api_Stage_api_Stage (i n : Nat) (s : St) : Option (E × St) := atN Tryz.prog c_slices_Clone_api_Stage_api_Stage an_slices_Clone_api_Stage_api_Stage 8 (bodyOf Tryz.f70) i n s
noncomputable def H_slices_Clone_api_Stage_api_Stage (n i : Nat) (s : St) : Option (E × St) := atH Tryz.prog c_slices_Clone_api_Stage_api_Stage an_slices_Clone_api_Stage_api_Stage 8 (bodyOf Tryz.f70) n i s
@[simp] theorem H_slices_Clone_api_Stage_api_Stage_eq (n i : Nat) (s : St) : H_slices_Clone_api_Stage_api_Stage n i s = L_slices_Clone_api_Stage_api_Stage i n (headOf (an_slices_Clone_api_Stage_api_Stage.loops.lookup i) s) := rfl
noncomputable def R_slices_Clone_api_Stage_api_Stage (i : Nat) (s : St) : Option (E × St) := stepL Tryz.prog c_slices_Clone_api_Stage_api_Stage an_slices_Clone_api_Stage_api_Stage 8 (bodyOf Tryz.f70) i s
theorem lok_slices_Clone_api_Stage_api_Stage : okLoops (bodyOf Tryz.f70) = true := by kernel_rfl
noncomputable def F_slices_Clone_api_Stage_api_Stage (ds : List D) : Option D := runF Tryz.prog c_slices_Clone_api_Stage_api_Stage an_slices_Clone_api_Stage_api_Stage 8 (bodyOf Tryz.f70) [.tmp 2] ds
theorem F_slices_Clone_api_Stage_api_Stage_eq (ds : List D) : F_slices_Clone_api_Stage_api_Stage ds = runG Tryz.prog c_slices_Clone_api_Stage_api_Stage (H_slices_Clone_api_Stage_api_Stage bigL) an_slices_Clone_api_Stage_api_Stage 8 (bodyOf Tryz.f70) [.tmp 2] ds := runG_eq lok_slices_Clone_api_Stage_api_Stage _ ds
theorem C_slices_Clone_api_Stage_api_Stage (ds : List D) (r : D) (h : F_slices_Clone_api_Stage_api_Stage ds = some r) : Contract Tryz.prog gl 70 ds r := contract_of mix Tryz.func70 rfl (by kernel_rfl) (by kernel_rfl) (by decide) (call := c_slices_Clone_api_Stage_api_Stage) ⟨callOf_ok cl_slices_Clone_api_Stage_api_Stage trivial, callOfE_ok ce_slices_Clone_api_Stage_api_Stage trivial⟩ h
noncomputable def NF_slices_Clone_api_Stage_api_Stage (ds : List D) : Option D := nilF F_slices_Clone_api_Stage_api_Stage (.own true []) ds
theorem NF_slices_Clone_api_Stage_api_Stage_sl (es : List (List D)) : NF_slices_Clone_api_Stage_api_Stage [.sl es] = if es.length = 0 then some (.own true []) else F_slices_Clone_api_Stage_api_Stage [.sl es] := Eq.trans rfl rfl
theorem NC_slices_Clone_api_Stage_api_Stage (ds : List D) (r : D) (h : NF_slices_Clone_api_Stage_api_Stage ds = some r) : Contract Tryz.prog gl 70 ds r := nilF_ok C_slices_Clone_api_Stage_api_Stage (fun A c => by rw [F_slices_Clone_api_Stage_api_Stage_eq]; cases A <;> simp) ds r h
-- slices.Clone[[]sawmill/kiln.Item,sawmill/kiln.Item]: loops []; state: params 0..0, then [2]
attribute [simp] Tryz.f71
noncomputable def an_slices_Clone_kiln_Item_kiln_Item : Ann := ⟨[0, 2], [4], [5], [], [], some [2], [], [], [], []⟩
@[simp] theorem an_slices_Clone_kiln_Item_kiln_Item_draws : an_slices_Clone_kiln_Item_kiln_Item.draws = [] := rfl
@[simp] theorem an_slices_Clone_kiln_Item_kiln_Item_exits : an_slices_Clone_kiln_Item_kiln_Item.exits = [] := rfl
@[simp] theorem an_slices_Clone_kiln_Item_kiln_Item_rets : an_slices_Clone_kiln_Item_kiln_Item.rets = some [2] := rfl
@[simp] theorem an_slices_Clone_kiln_Item_kiln_Item_keep : an_slices_Clone_kiln_Item_kiln_Item.keep = [0, 2] := rfl
@[simp] theorem an_slices_Clone_kiln_Item_kiln_Item_cond : an_slices_Clone_kiln_Item_kiln_Item.cond = [4] := rfl
@[simp] theorem an_slices_Clone_kiln_Item_kiln_Item_rows : an_slices_Clone_kiln_Item_kiln_Item.rows = [5] := rfl
@[simp] theorem an_slices_Clone_kiln_Item_kiln_Item_loops : an_slices_Clone_kiln_Item_kiln_Item.loops = [] := rfl
@[simp] theorem an_slices_Clone_kiln_Item_kiln_Item_ecalls : an_slices_Clone_kiln_Item_kiln_Item.ecalls = [] := rfl
@[simp] theorem an_slices_Clone_kiln_Item_kiln_Item_crows : an_slices_Clone_kiln_Item_kiln_Item.crows = [] := rfl
@[simp] theorem an_slices_Clone_kiln_Item_kiln_Item_tails : an_slices_Clone_kiln_Item_kiln_Item.tails = [] := rfl
@[simp] noncomputable def cl_slices_Clone_kiln_Item_kiln_Item : List (Nat × (List D → Option D)) := []
@[simp] noncomputable def ce_slices_Clone_kiln_Item_kiln_Item : List (Nat × (List (Nat × O) → List D → Option (D × List (Nat × O)))) := []
noncomputable def c_slices_Clone_kiln_Item_kiln_Item : CT := ⟨callOf (cl_slices_Clone_kiln_Item_kiln_Item ), callOfE ce_slices_Clone_kiln_Item_kiln_Item, gl⟩
@[simp] theorem c_slices_Clone_kiln_Item_kiln_Item_p (f : FuncId) (ds : List D) : c_slices_Clone_kiln_Item_kiln_Item.p f ds = callOf (cl_slices_Clone_kiln_Item_kiln_Item ) f ds := Eq.trans rfl rfl
@[simp] theorem c_slices_Clone_kiln_Item_kiln_Item_e (f : FuncId) (hs : List (Nat × O)) (ds : List D) : c_slices_Clone_kiln_Item_kiln_Item.e f hs ds = callOfE ce_slices_Clone_kiln_Item_kiln_Item f hs ds := Eq.trans rfl rfl
@[simp] theorem c_slices_Clone_kiln_Item_kiln_Item_g (g : Nat) : c_slices_Clone_kiln_Item_kiln_Item.g g = gl g := Eq.trans rfl rfl
noncomputable def L_slices_Clone_kiln_Item_kiln_Item (i n : Nat) (s : St) : Option (E × St) := atN Tryz.prog c_slices_Clone_kiln_Item_kiln_Item an_slices_Clone_kiln_Item_kiln_Item 8 (bodyOf Tryz.f71) i n s
noncomputable def H_slices_Clone_kiln_Item_kiln_Item (n i : Nat) (s : St) : Option (E × St) := atH Tryz.prog c_slices_Clone_kiln_Item_kiln_Item an_slices_Clone_kiln_Item_kiln_Item 8 (bodyOf Tryz.f71) n i s
@[simp] theorem H_slices_Clone_kiln_Item_kiln_Item_eq (n i : Nat) (s : St) : H_slices_Clone_kiln_Item_kiln_Item n i s = L_slices_Clone_kiln_Item_kiln_Item i n (headOf (an_slices_Clone_kiln_Item_kiln_Item.loops.lookup i) s) := rfl
noncomputable def R_slices_Clone_kiln_Item_kiln_Item (i : Nat) (s : St) : Option (E × St) := stepL Tryz.prog c_slices_Clone_kiln_Item_kiln_Item an_slices_Clone_kiln_Item_kiln_Item 8 (bodyOf Tryz.f71) i s
theorem lok_slices_Clone_kiln_Item_kiln_Item : okLoops (bodyOf Tryz.f71) = true := by kernel_rfl
noncomputable def F_slices_Clone_kiln_Item_kiln_Item (ds : List D) : Option D := runF Tryz.prog c_slices_Clone_kiln_Item_kiln_Item an_slices_Clone_kiln_Item_kiln_Item 8 (bodyOf Tryz.f71) [.tmp 2] ds
theorem F_slices_Clone_kiln_Item_kiln_Item_eq (ds : List D) : F_slices_Clone_kiln_Item_kiln_Item ds = runG Tryz.prog c_slices_Clone_kiln_Item_kiln_Item (H_slices_Clone_kiln_Item_kiln_Item bigL) an_slices_Clone_kiln_Item_kiln_Item 8 (bodyOf Tryz.f71) [.tmp 2] ds := runG_eq lok_slices_Clone_kiln_Item_kiln_Item _ ds
theorem C_slices_Clone_kiln_Item_kiln_Item (ds : List D) (r : D) (h : F_slices_Clone_kiln_Item_kiln_Item ds = some r) : Contract Tryz.prog gl 71 ds r := contract_of mix Tryz.func71 rfl (by kernel_rfl) (by kernel_rfl) (by decide) (call := c_slices_Clone_kiln_Item_kiln_Item) ⟨callOf_ok cl_slices_Clone_kiln_Item_kiln_Item trivial, callOfE_ok ce_slices_Clone_kiln_Item_kiln_Item trivial⟩ h
noncomputable def NF_slices_Clone_kiln_Item_kiln_Item (ds : List D) : Option D := nilF F_slices_Clone_kiln_Item_kiln_Item (.own true []) ds
theorem NF_slices_Clone_kiln_Item_kiln_Item_sl (es : List (List D)) : NF_slices_Clone_kiln_Item_kiln_Item [.sl es] = if es.length = 0 then some (.own true []) else F_slices_Clone_kiln_Item_kiln_Item [.sl es] := Eq.trans rfl rfl
theorem NC_slices_Clone_kiln_Item_kiln_Item (ds : List D) (r : D) (h : NF_slices_Clone_kiln_Item_kiln_Item ds = some r) : Contract Tryz.prog gl 71 ds r := nilF_ok C_slices_Clone_kiln_Item_kiln_Item (fun A c => by rw [F_slices_Clone_kiln_Item_kiln_Item_eq]; cases A <;> simp) ds r h
-- slices.Clone[[]sawmill/kiln.Item,sawmill/kiln.Item]: loops []; state: params 0..0, then [2]; WITH OBJECTS
attribute [simp] Tryz.f71
noncomputable def an_slices_Clone_kiln_Item_kiln_Item_obj : Ann := ⟨[0, 2], [4], [2, 5], [], [], some [2], [], [], [], []⟩
@[simp] theorem an_slices_Clone_kiln_Item_kiln_Item_obj_draws : an_slices_Clone_kiln_Item_kiln_Item_obj.draws = [] := rfl
@[simp] theorem an_slices_Clone_kiln_Item_kiln_Item_obj_exits : an_slices_Clone_kiln_Item_kiln_Item_obj.exits = [] := rfl
@[simp] theorem an_slices_Clone_kiln_Item_kiln_Item_obj_rets : an_slices_Clone_kiln_Item_kiln_Item_obj.rets = some [2] := rfl
@[simp] theorem an_slices_Clone_kiln_Item_kiln_Item_obj_keep : an_slices_Clone_kiln_Item_kiln_Item_obj.keep = [0, 2] := rfl
@[simp] theorem an_slices_Clone_kiln_Item_kiln_Item_obj_cond : an_slices_Clone_kiln_Item_kiln_Item_obj.cond = [4] := rfl
@[simp] theorem an_slices_Clone_kiln_Item_kiln_Item_obj_rows : an_slices_Clone_kiln_Item_kiln_Item_obj.rows = [2, 5] := rfl
@[simp] theorem an_slices_Clone_kiln_Item_kiln_Item_obj_loops : an_slices_Clone_kiln_Item_kiln_Item_obj.loops = [] := rfl
@[simp] theorem an_slices_Clone_kiln_Item_kiln_Item_obj_ecalls : an_slices_Clone_kiln_Item_kiln_Item_obj.ecalls = [] := rfl
@[simp] theorem an_slices_Clone_kiln_Item_kiln_Item_obj_crows : an_slices_Clone_kiln_Item_kiln_Item_obj.crows = [] := rfl
@[simp] theorem an_slices_Clone_kiln_Item_kiln_Item_obj_tails : an_slices_Clone_kiln_Item_kiln_Item_obj.tails = [] := rfl
@[simp] noncomputable def cl_slices_Clone_kiln_Item_kiln_Item_obj : List (Nat × (List D → Option D)) := []
@[simp] noncomputable def ce_slices_Clone_kiln_Item_kiln_Item_obj : List (Nat × (List (Nat × O) → List D → Option (D × List (Nat × O)))) := []
noncomputable def c_slices_Clone_kiln_Item_kiln_Item_obj : CT := ⟨callOf (cl_slices_Clone_kiln_Item_kiln_Item_obj ), callOfE ce_slices_Clone_kiln_Item_kiln_Item_obj, gl⟩
@[simp] theorem c_slices_Clone_kiln_Item_kiln_Item_obj_p (f : FuncId) (ds : List D) : c_slices_Clone_kiln_Item_kiln_Item_obj.p f ds = callOf (cl_slices_Clone_kiln_Item_kiln_Item_obj ) f ds := Eq.trans rfl rfl
@[simp] theorem c_slices_Clone_kiln_Item_kiln_Item_obj_e (f : FuncId) (hs : List (Nat × O)) (ds : List D) : c_slices_Clone_kiln_Item_kiln_Item_obj.e f hs ds = callOfE ce_slices_Clone_kiln_Item_kiln_Item_obj f hs ds := Eq.trans rfl rfl
@[simp] theorem c_slices_Clone_kiln_Item_kiln_Item_obj_g (g : Nat) : c_slices_Clone_kiln_Item_kiln_Item_obj.g g = gl g := Eq.trans rfl rfl
noncomputable def L_slices_Clone_kiln_Item_kiln_Item_obj (i n : Nat) (s : St) : Option (E × St) := atN Tryz.prog c_slices_Clone_kiln_Item_kiln_Item_obj an_slices_Clone_kiln_Item_kiln_Item_obj 8 (bodyOf Tryz.f71) i n s
noncomputable def H_slices_Clone_kiln_Item_kiln_Item_obj (n i : Nat) (s : St) : Option (E × St) := atH Tryz.prog c_slices_Clone_kiln_Item_kiln_Item_obj an_slices_Clone_kiln_Item_kiln_Item_obj 8 (bodyOf Tryz.f71) n i s
@[simp] theorem H_slices_Clone_kiln_Item_kiln_Item_obj_eq (n i : Nat) (s : St) : H_slices_Clone_kiln_Item_kiln_Item_obj n i s = L_slices_Clone_kiln_Item_kiln_Item_obj i n (headOf (an_slices_Clone_kiln_Item_kiln_Item_obj.loops.lookup i) s) := rfl
noncomputable def R_slices_Clone_kiln_Item_kiln_Item_obj (i : Nat) (s : St) : Option (E × St) := stepL Tryz.prog c_slices_Clone_kiln_Item_kiln_Item_obj an_slices_Clone_kiln_Item_kiln_Item_obj 8 (bodyOf Tryz.f71) i s
theorem lok_slices_Clone_kiln_Item_kiln_Item_obj : okLoops (bodyOf Tryz.f71) = true := by kernel_rfl
noncomputable def E_slices_Clone_kiln_Item_kiln_Item_obj (hs : List (Nat × O)) (ds : List D) : Option (D × List (Nat × O)) := runE Tryz.prog c_slices_Clone_kiln_Item_kiln_Item_obj an_slices_Clone_kiln_Item_kiln_Item_obj 8 (bodyOf Tryz.f71) [.tmp 2] hs ds
theorem E_slices_Clone_kiln_Item_kiln_Item_obj_eq (hs : List (Nat × O)) (ds : List D) : E_slices_Clone_kiln_Item_kiln_Item_obj hs ds = runGE Tryz.prog c_slices_Clone_kiln_Item_kiln_Item_obj (H_slices_Clone_kiln_Item_kiln_Item_obj bigL) an_slices_Clone_kiln_Item_kiln_Item_obj 8 (bodyOf Tryz.f71) [.tmp 2] hs ds := runGE_eq lok_slices_Clone_kiln_Item_kiln_Item_obj _ hs ds
theorem CE_slices_Clone_kiln_Item_kiln_Item_obj (hs : List (Nat × O)) (ds : List D) (r : D) (hs' : List (Nat × O)) (h : E_slices_Clone_kiln_Item_kiln_Item_obj hs ds = some (r, hs')) : ContractE Tryz.prog gl 71 hs ds r hs' := contractE_of mix Tryz.func71 rfl (by kernel_rfl) (by kernel_rfl) (by decide) (call := c_slices_Clone_kiln_Item_kiln_Item_obj) ⟨callOf_ok cl_slices_Clone_kiln_Item_kiln_Item_obj trivial, callOfE_ok ce_slices_Clone_kiln_Item_kiln_Item_obj trivial⟩ h
-- sawmill/air.Outside: loops []; state: params 0..-1, then [0]
attribute [simp] Tryz.f72
noncomputable def an_air_Outside : Ann := ⟨[0], [], [], [], [], some [0], [], [], [], []⟩
@[simp] theorem an_air_Outside_draws : an_air_Outside.draws = [] := rfl
@[simp] theorem an_air_Outside_exits : an_air_Outside.exits = [] := rfl
@[simp] theorem an_air_Outside_rets : an_air_Outside.rets = some [0] := rfl
@[simp] theorem an_air_Outside_keep : an_air_Outside.keep = [0] := rfl
@[simp] theorem an_air_Outside_cond : an_air_Outside.cond = [] := rfl
@[simp] theorem an_air_Outside_rows : an_air_Outside.rows = [] := rfl
@[simp] theorem an_air_Outside_loops : an_air_Outside.loops = [] := rfl
@[simp] theorem an_air_Outside_ecalls : an_air_Outside.ecalls = [] := rfl
@[simp] theorem an_air_Outside_crows : an_air_Outside.crows = [] := rfl
@[simp] theorem an_air_Outside_tails : an_air_Outside.tails = [] := rfl
@[simp] noncomputable def cl_air_Outside : List (Nat × (List D → Option D)) := []
@[simp] noncomputable def ce_air_Outside : List (Nat × (List (Nat × O) → List D → Option (D × List (Nat × O)))) := []
noncomputable def c_air_Outside : CT := ⟨callOf (cl_air_Outside ), callOfE ce_air_Outside, gl⟩
@[simp] theorem c_air_Outside_p (f : FuncId) (ds : List D) : c_air_Outside.p f ds = callOf (cl_air_Outside ) f ds := Eq.trans rfl rfl
@[simp] theorem c_air_Outside_e (f : FuncId) (hs : List (Nat × O)) (ds : List D) : c_air_Outside.e f hs ds = callOfE ce_air_Outside f hs ds := Eq.trans rfl rfl
@[simp] theorem c_air_Outside_g (g : Nat) : c_air_Outside.g g = gl g := Eq.trans rfl rfl
noncomputable def L_air_Outside (i n : Nat) (s : St) : Option (E × St) := atN Tryz.prog c_air_Outside an_air_Outside 2 (bodyOf Tryz.f72) i n s
noncomputable def H_air_Outside (n i : Nat) (s : St) : Option (E × St) := atH Tryz.prog c_air_Outside an_air_Outside 2 (bodyOf Tryz.f72) n i s
@[simp] theorem H_air_Outside_eq (n i : Nat) (s : St) : H_air_Outside n i s = L_air_Outside i n (headOf (an_air_Outside.loops.lookup i) s) := rfl
noncomputable def R_air_Outside (i : Nat) (s : St) : Option (E × St) := stepL Tryz.prog c_air_Outside an_air_Outside 2 (bodyOf Tryz.f72) i s
theorem lok_air_Outside : okLoops (bodyOf Tryz.f72) = true := by kernel_rfl
noncomputable def F_air_Outside (ds : List D) : Option D := runF Tryz.prog c_air_Outside an_air_Outside 2 (bodyOf Tryz.f72) [.cell 0 32] ds
theorem F_air_Outside_eq (ds : List D) : F_air_Outside ds = runG Tryz.prog c_air_Outside (H_air_Outside bigL) an_air_Outside 2 (bodyOf Tryz.f72) [.cell 0 32] ds := runG_eq lok_air_Outside _ ds
theorem C_air_Outside (ds : List D) (r : D) (h : F_air_Outside ds = some r) : Contract Tryz.prog gl 72 ds r := contract_of mix Tryz.func72 rfl (by kernel_rfl) (by kernel_rfl) (by decide) (call := c_air_Outside) ⟨callOf_ok cl_air_Outside trivial, callOfE_ok ce_air_Outside trivial⟩ h
-- sawmill/kiln.New: loops [12]; state: params 0..2, then [3, 4, 6, 7, 8, 9, 11, 12, 30, 31, 32]; WITH OBJECTS
attribute [simp] Tryz.f47
noncomputable def an_kiln_New : Ann := ⟨[2, 3, 4, 6, 7, 8, 9, 11, 12, 30, 31, 32], [16, 22, 26, 29, 33, 43, 48], [], [(12, [2, 3, 4, 30, 31, 32])], [(0, [2, 3, 4]), (1, [2, 3, 4, 30, 31, 32])], some [6, 7], [(21, 5)], [], [], []⟩
@[simp] theorem an_kiln_New_draws : an_kiln_New.draws = [(21, 5)] := rfl
@[simp] theorem an_kiln_New_exits : an_kiln_New.exits = [(0, [2, 3, 4]), (1, [2, 3, 4, 30, 31, 32])] := rfl
@[simp] theorem an_kiln_New_rets : an_kiln_New.rets = some [6, 7] := rfl
@[simp] theorem an_kiln_New_keep : an_kiln_New.keep = [2, 3, 4, 6, 7, 8, 9, 11, 12, 30, 31, 32] := rfl
@[simp] theorem an_kiln_New_cond : an_kiln_New.cond = [16, 22, 26, 29, 33, 43, 48] := rfl
@[simp] theorem an_kiln_New_rows : an_kiln_New.rows = [] := rfl
@[simp] theorem an_kiln_New_loops : an_kiln_New.loops = [(12, [2, 3, 4, 30, 31, 32])] := rfl
@[simp] theorem an_kiln_New_ecalls : an_kiln_New.ecalls = [] := rfl
@[simp] theorem an_kiln_New_crows : an_kiln_New.crows = [] := rfl
@[simp] theorem an_kiln_New_tails : an_kiln_New.tails = [] := rfl
@[simp] noncomputable def cl_kiln_New : List (Nat × (List D → Option D)) := [(19, F_moist_Check), (21, F_schedule_Check), (22, F_wood_Check), (70, NF_slices_Clone_api_Stage_api_Stage), (71, NF_slices_Clone_kiln_Item_kiln_Item), (72, F_air_Outside)]
@[simp] noncomputable def ce_kiln_New : List (Nat × (List (Nat × O) → List D → Option (D × List (Nat × O)))) := []
noncomputable def c_kiln_New : CT := ⟨callOf (cl_kiln_New ), callOfE ce_kiln_New, gl⟩
@[simp] theorem c_kiln_New_p (f : FuncId) (ds : List D) : c_kiln_New.p f ds = callOf (cl_kiln_New ) f ds := Eq.trans rfl rfl
@[simp] theorem c_kiln_New_e (f : FuncId) (hs : List (Nat × O)) (ds : List D) : c_kiln_New.e f hs ds = callOfE ce_kiln_New f hs ds := Eq.trans rfl rfl
@[simp] theorem c_kiln_New_g (g : Nat) : c_kiln_New.g g = gl g := Eq.trans rfl rfl
noncomputable def L_kiln_New (i n : Nat) (s : St) : Option (E × St) := atN Tryz.prog c_kiln_New an_kiln_New 62 (bodyOf Tryz.f47) i n s
noncomputable def H_kiln_New (n i : Nat) (s : St) : Option (E × St) := atH Tryz.prog c_kiln_New an_kiln_New 62 (bodyOf Tryz.f47) n i s
@[simp] theorem H_kiln_New_eq (n i : Nat) (s : St) : H_kiln_New n i s = L_kiln_New i n (headOf (an_kiln_New.loops.lookup i) s) := rfl
noncomputable def R_kiln_New (i : Nat) (s : St) : Option (E × St) := stepL Tryz.prog c_kiln_New an_kiln_New 62 (bodyOf Tryz.f47) i s
theorem lok_kiln_New : okLoops (bodyOf Tryz.f47) = true := by kernel_rfl
theorem L_kiln_New_zero (i : Nat) (s : St) : L_kiln_New i 0 s = none := rfl
theorem L_kiln_New_succ (i n : Nat) (s : St) : L_kiln_New i (n + 1) s = andThen (R_kiln_New i s) (H_kiln_New n i) := atN_succ lok_kiln_New i n s
theorem R_kiln_New_eq (i : Nat) (s : St) : R_kiln_New i s = runS Tryz.prog c_kiln_New (H_kiln_New bigL) an_kiln_New 62 (loopAt (bodyOf Tryz.f47) i) s := rfl
noncomputable def E_kiln_New (hs : List (Nat × O)) (ds : List D) : Option (D × List (Nat × O)) := runE Tryz.prog c_kiln_New an_kiln_New 62 (bodyOf Tryz.f47) [.tmp 6, .tmp 7] hs ds
theorem E_kiln_New_eq (hs : List (Nat × O)) (ds : List D) : E_kiln_New hs ds = runGE Tryz.prog c_kiln_New (H_kiln_New bigL) an_kiln_New 62 (bodyOf Tryz.f47) [.tmp 6, .tmp 7] hs ds := runGE_eq lok_kiln_New _ hs ds
theorem CE_kiln_New (hs : List (Nat × O)) (ds : List D) (r : D) (hs' : List (Nat × O)) (h : E_kiln_New hs ds = some (r, hs')) : ContractE Tryz.prog gl 47 hs ds r hs' := contractE_of mix Tryz.func47 rfl (by kernel_rfl) (by kernel_rfl) (by decide) (call := c_kiln_New) ⟨callOf_ok cl_kiln_New ⟨C_moist_Check, C_schedule_Check, C_wood_Check, NC_slices_Clone_api_Stage_api_Stage, NC_slices_Clone_kiln_Item_kiln_Item, C_air_Outside, trivial⟩, callOfE_ok ce_kiln_New trivial⟩ h
-- (*sawmill/kiln.Kiln).Climate: loops []; state: params 0..0, then [2]
attribute [simp] Tryz.f73
noncomputable def an_kiln_Kiln_Climate : Ann := ⟨[0, 2], [4], [], [], [], some [2], [], [], [], []⟩
@[simp] theorem an_kiln_Kiln_Climate_draws : an_kiln_Kiln_Climate.draws = [] := rfl
@[simp] theorem an_kiln_Kiln_Climate_exits : an_kiln_Kiln_Climate.exits = [] := rfl
@[simp] theorem an_kiln_Kiln_Climate_rets : an_kiln_Kiln_Climate.rets = some [2] := rfl
@[simp] theorem an_kiln_Kiln_Climate_keep : an_kiln_Kiln_Climate.keep = [0, 2] := rfl
@[simp] theorem an_kiln_Kiln_Climate_cond : an_kiln_Kiln_Climate.cond = [4] := rfl
@[simp] theorem an_kiln_Kiln_Climate_rows : an_kiln_Kiln_Climate.rows = [] := rfl
@[simp] theorem an_kiln_Kiln_Climate_loops : an_kiln_Kiln_Climate.loops = [] := rfl
@[simp] theorem an_kiln_Kiln_Climate_ecalls : an_kiln_Kiln_Climate.ecalls = [] := rfl
@[simp] theorem an_kiln_Kiln_Climate_crows : an_kiln_Kiln_Climate.crows = [] := rfl
@[simp] theorem an_kiln_Kiln_Climate_tails : an_kiln_Kiln_Climate.tails = [] := rfl
@[simp] noncomputable def cl_kiln_Kiln_Climate : List (Nat × (List D → Option D)) := []
@[simp] noncomputable def ce_kiln_Kiln_Climate : List (Nat × (List (Nat × O) → List D → Option (D × List (Nat × O)))) := []
noncomputable def c_kiln_Kiln_Climate : CT := ⟨callOf (cl_kiln_Kiln_Climate ), callOfE ce_kiln_Kiln_Climate, gl⟩
@[simp] theorem c_kiln_Kiln_Climate_p (f : FuncId) (ds : List D) : c_kiln_Kiln_Climate.p f ds = callOf (cl_kiln_Kiln_Climate ) f ds := Eq.trans rfl rfl
@[simp] theorem c_kiln_Kiln_Climate_e (f : FuncId) (hs : List (Nat × O)) (ds : List D) : c_kiln_Kiln_Climate.e f hs ds = callOfE ce_kiln_Kiln_Climate f hs ds := Eq.trans rfl rfl
@[simp] theorem c_kiln_Kiln_Climate_g (g : Nat) : c_kiln_Kiln_Climate.g g = gl g := Eq.trans rfl rfl
noncomputable def L_kiln_Kiln_Climate (i n : Nat) (s : St) : Option (E × St) := atN Tryz.prog c_kiln_Kiln_Climate an_kiln_Kiln_Climate 10 (bodyOf Tryz.f73) i n s
noncomputable def H_kiln_Kiln_Climate (n i : Nat) (s : St) : Option (E × St) := atH Tryz.prog c_kiln_Kiln_Climate an_kiln_Kiln_Climate 10 (bodyOf Tryz.f73) n i s
@[simp] theorem H_kiln_Kiln_Climate_eq (n i : Nat) (s : St) : H_kiln_Kiln_Climate n i s = L_kiln_Kiln_Climate i n (headOf (an_kiln_Kiln_Climate.loops.lookup i) s) := rfl
noncomputable def R_kiln_Kiln_Climate (i : Nat) (s : St) : Option (E × St) := stepL Tryz.prog c_kiln_Kiln_Climate an_kiln_Kiln_Climate 10 (bodyOf Tryz.f73) i s
theorem lok_kiln_Kiln_Climate : okLoops (bodyOf Tryz.f73) = true := by kernel_rfl
noncomputable def F_kiln_Kiln_Climate (ds : List D) : Option D := runF Tryz.prog c_kiln_Kiln_Climate an_kiln_Kiln_Climate 10 (bodyOf Tryz.f73) [.cell 2 32] ds
theorem F_kiln_Kiln_Climate_eq (ds : List D) : F_kiln_Kiln_Climate ds = runG Tryz.prog c_kiln_Kiln_Climate (H_kiln_Kiln_Climate bigL) an_kiln_Kiln_Climate 10 (bodyOf Tryz.f73) [.cell 2 32] ds := runG_eq lok_kiln_Kiln_Climate _ ds
theorem C_kiln_Kiln_Climate (ds : List D) (r : D) (h : F_kiln_Kiln_Climate ds = some r) : Contract Tryz.prog gl 73 ds r := contract_of mix Tryz.func73 rfl (by kernel_rfl) (by kernel_rfl) (by decide) (call := c_kiln_Kiln_Climate) ⟨callOf_ok cl_kiln_Kiln_Climate trivial, callOfE_ok ce_kiln_Kiln_Climate trivial⟩ h
-- (*sawmill/kiln.Kiln).Items: loops []; state: params 0..0, then [2]
attribute [simp] Tryz.f50
noncomputable def an_kiln_Kiln_Items : Ann := ⟨[0, 2], [4], [], [], [], some [2], [], [], [], []⟩
@[simp] theorem an_kiln_Kiln_Items_draws : an_kiln_Kiln_Items.draws = [] := rfl
@[simp] theorem an_kiln_Kiln_Items_exits : an_kiln_Kiln_Items.exits = [] := rfl
@[simp] theorem an_kiln_Kiln_Items_rets : an_kiln_Kiln_Items.rets = some [2] := rfl
@[simp] theorem an_kiln_Kiln_Items_keep : an_kiln_Kiln_Items.keep = [0, 2] := rfl
@[simp] theorem an_kiln_Kiln_Items_cond : an_kiln_Kiln_Items.cond = [4] := rfl
@[simp] theorem an_kiln_Kiln_Items_rows : an_kiln_Kiln_Items.rows = [] := rfl
@[simp] theorem an_kiln_Kiln_Items_loops : an_kiln_Kiln_Items.loops = [] := rfl
@[simp] theorem an_kiln_Kiln_Items_ecalls : an_kiln_Kiln_Items.ecalls = [] := rfl
@[simp] theorem an_kiln_Kiln_Items_crows : an_kiln_Kiln_Items.crows = [] := rfl
@[simp] theorem an_kiln_Kiln_Items_tails : an_kiln_Kiln_Items.tails = [] := rfl
@[simp] noncomputable def cl_kiln_Kiln_Items : List (Nat × (List D → Option D)) := [(71, NF_slices_Clone_kiln_Item_kiln_Item)]
@[simp] noncomputable def ce_kiln_Kiln_Items : List (Nat × (List (Nat × O) → List D → Option (D × List (Nat × O)))) := []
noncomputable def c_kiln_Kiln_Items : CT := ⟨callOf (cl_kiln_Kiln_Items ), callOfE ce_kiln_Kiln_Items, gl⟩
@[simp] theorem c_kiln_Kiln_Items_p (f : FuncId) (ds : List D) : c_kiln_Kiln_Items.p f ds = callOf (cl_kiln_Kiln_Items ) f ds := Eq.trans rfl rfl
@[simp] theorem c_kiln_Kiln_Items_e (f : FuncId) (hs : List (Nat × O)) (ds : List D) : c_kiln_Kiln_Items.e f hs ds = callOfE ce_kiln_Kiln_Items f hs ds := Eq.trans rfl rfl
@[simp] theorem c_kiln_Kiln_Items_g (g : Nat) : c_kiln_Kiln_Items.g g = gl g := Eq.trans rfl rfl
noncomputable def L_kiln_Kiln_Items (i n : Nat) (s : St) : Option (E × St) := atN Tryz.prog c_kiln_Kiln_Items an_kiln_Kiln_Items 10 (bodyOf Tryz.f50) i n s
noncomputable def H_kiln_Kiln_Items (n i : Nat) (s : St) : Option (E × St) := atH Tryz.prog c_kiln_Kiln_Items an_kiln_Kiln_Items 10 (bodyOf Tryz.f50) n i s
@[simp] theorem H_kiln_Kiln_Items_eq (n i : Nat) (s : St) : H_kiln_Kiln_Items n i s = L_kiln_Kiln_Items i n (headOf (an_kiln_Kiln_Items.loops.lookup i) s) := rfl
noncomputable def R_kiln_Kiln_Items (i : Nat) (s : St) : Option (E × St) := stepL Tryz.prog c_kiln_Kiln_Items an_kiln_Kiln_Items 10 (bodyOf Tryz.f50) i s
theorem lok_kiln_Kiln_Items : okLoops (bodyOf Tryz.f50) = true := by kernel_rfl
noncomputable def F_kiln_Kiln_Items (ds : List D) : Option D := runF Tryz.prog c_kiln_Kiln_Items an_kiln_Kiln_Items 10 (bodyOf Tryz.f50) [.tmp 2] ds
theorem F_kiln_Kiln_Items_eq (ds : List D) : F_kiln_Kiln_Items ds = runG Tryz.prog c_kiln_Kiln_Items (H_kiln_Kiln_Items bigL) an_kiln_Kiln_Items 10 (bodyOf Tryz.f50) [.tmp 2] ds := runG_eq lok_kiln_Kiln_Items _ ds
theorem C_kiln_Kiln_Items (ds : List D) (r : D) (h : F_kiln_Kiln_Items ds = some r) : Contract Tryz.prog gl 50 ds r := contract_of mix Tryz.func50 rfl (by kernel_rfl) (by kernel_rfl) (by decide) (call := c_kiln_Kiln_Items) ⟨callOf_ok cl_kiln_Kiln_Items ⟨NC_slices_Clone_kiln_Item_kiln_Item, trivial⟩, callOfE_ok ce_kiln_Kiln_Items trivial⟩ h
-- sawmill/moist.Gradient: loops []; state: params 0..0, then [1, 2]
attribute [simp] Tryz.f95
noncomputable def an_moist_Gradient : Ann := ⟨[1, 2], [5], [], [], [], some [2], [], [], [], []⟩
@[simp] theorem an_moist_Gradient_draws : an_moist_Gradient.draws = [] := rfl
@[simp] theorem an_moist_Gradient_exits : an_moist_Gradient.exits = [] := rfl
@[simp] theorem an_moist_Gradient_rets : an_moist_Gradient.rets = some [2] := rfl
@[simp] theorem an_moist_Gradient_keep : an_moist_Gradient.keep = [1, 2] := rfl
@[simp] theorem an_moist_Gradient_cond : an_moist_Gradient.cond = [5] := rfl
@[simp] theorem an_moist_Gradient_rows : an_moist_Gradient.rows = [] := rfl
@[simp] theorem an_moist_Gradient_loops : an_moist_Gradient.loops = [] := rfl
@[simp] theorem an_moist_Gradient_ecalls : an_moist_Gradient.ecalls = [] := rfl
@[simp] theorem an_moist_Gradient_crows : an_moist_Gradient.crows = [] := rfl
@[simp] theorem an_moist_Gradient_tails : an_moist_Gradient.tails = [] := rfl
@[simp] noncomputable def cl_moist_Gradient : List (Nat × (List D → Option D)) := [(19, F_moist_Check)]
@[simp] noncomputable def ce_moist_Gradient : List (Nat × (List (Nat × O) → List D → Option (D × List (Nat × O)))) := []
noncomputable def c_moist_Gradient : CT := ⟨callOf (cl_moist_Gradient ), callOfE ce_moist_Gradient, gl⟩
@[simp] theorem c_moist_Gradient_p (f : FuncId) (ds : List D) : c_moist_Gradient.p f ds = callOf (cl_moist_Gradient ) f ds := Eq.trans rfl rfl
@[simp] theorem c_moist_Gradient_e (f : FuncId) (hs : List (Nat × O)) (ds : List D) : c_moist_Gradient.e f hs ds = callOfE ce_moist_Gradient f hs ds := Eq.trans rfl rfl
@[simp] theorem c_moist_Gradient_g (g : Nat) : c_moist_Gradient.g g = gl g := Eq.trans rfl rfl
noncomputable def L_moist_Gradient (i n : Nat) (s : St) : Option (E × St) := atN Tryz.prog c_moist_Gradient an_moist_Gradient 11 (bodyOf Tryz.f95) i n s
noncomputable def H_moist_Gradient (n i : Nat) (s : St) : Option (E × St) := atH Tryz.prog c_moist_Gradient an_moist_Gradient 11 (bodyOf Tryz.f95) n i s
@[simp] theorem H_moist_Gradient_eq (n i : Nat) (s : St) : H_moist_Gradient n i s = L_moist_Gradient i n (headOf (an_moist_Gradient.loops.lookup i) s) := rfl
noncomputable def R_moist_Gradient (i : Nat) (s : St) : Option (E × St) := stepL Tryz.prog c_moist_Gradient an_moist_Gradient 11 (bodyOf Tryz.f95) i s
theorem lok_moist_Gradient : okLoops (bodyOf Tryz.f95) = true := by kernel_rfl
noncomputable def F_moist_Gradient (ds : List D) : Option D := runF Tryz.prog c_moist_Gradient an_moist_Gradient 11 (bodyOf Tryz.f95) [.tmp 2] ds
theorem F_moist_Gradient_eq (ds : List D) : F_moist_Gradient ds = runG Tryz.prog c_moist_Gradient (H_moist_Gradient bigL) an_moist_Gradient 11 (bodyOf Tryz.f95) [.tmp 2] ds := runG_eq lok_moist_Gradient _ ds
theorem C_moist_Gradient (ds : List D) (r : D) (h : F_moist_Gradient ds = some r) : Contract Tryz.prog gl 95 ds r := contract_of mix Tryz.func95 rfl (by kernel_rfl) (by kernel_rfl) (by decide) (call := c_moist_Gradient) ⟨callOf_ok cl_moist_Gradient ⟨C_moist_Check, trivial⟩, callOfE_ok ce_moist_Gradient trivial⟩ h
-- sawmill/charge.steepest: loops [3]; state: params 0..0, then [2, 3, 4, 5, 6, 8, 9, 10]
attribute [simp] Tryz.f74
noncomputable def an_charge_steepest : Ann := ⟨[2, 3, 4, 5, 6, 8, 9, 10], [11, 24], [], [(3, [3, 8, 9, 10])], [(0, [3]), (1, [3, 8, 9, 10])], some [2], [], [], [], []⟩
@[simp] theorem an_charge_steepest_draws : an_charge_steepest.draws = [] := rfl
@[simp] theorem an_charge_steepest_exits : an_charge_steepest.exits = [(0, [3]), (1, [3, 8, 9, 10])] := rfl
@[simp] theorem an_charge_steepest_rets : an_charge_steepest.rets = some [2] := rfl
@[simp] theorem an_charge_steepest_keep : an_charge_steepest.keep = [2, 3, 4, 5, 6, 8, 9, 10] := rfl
@[simp] theorem an_charge_steepest_cond : an_charge_steepest.cond = [11, 24] := rfl
@[simp] theorem an_charge_steepest_rows : an_charge_steepest.rows = [] := rfl
@[simp] theorem an_charge_steepest_loops : an_charge_steepest.loops = [(3, [3, 8, 9, 10])] := rfl
@[simp] theorem an_charge_steepest_ecalls : an_charge_steepest.ecalls = [] := rfl
@[simp] theorem an_charge_steepest_crows : an_charge_steepest.crows = [] := rfl
@[simp] theorem an_charge_steepest_tails : an_charge_steepest.tails = [] := rfl
@[simp] noncomputable def cl_charge_steepest : List (Nat × (List D → Option D)) := [(50, F_kiln_Kiln_Items), (95, F_moist_Gradient)]
@[simp] noncomputable def ce_charge_steepest : List (Nat × (List (Nat × O) → List D → Option (D × List (Nat × O)))) := []
noncomputable def c_charge_steepest : CT := ⟨callOf (cl_charge_steepest ), callOfE ce_charge_steepest, gl⟩
@[simp] theorem c_charge_steepest_p (f : FuncId) (ds : List D) : c_charge_steepest.p f ds = callOf (cl_charge_steepest ) f ds := Eq.trans rfl rfl
@[simp] theorem c_charge_steepest_e (f : FuncId) (hs : List (Nat × O)) (ds : List D) : c_charge_steepest.e f hs ds = callOfE ce_charge_steepest f hs ds := Eq.trans rfl rfl
@[simp] theorem c_charge_steepest_g (g : Nat) : c_charge_steepest.g g = gl g := Eq.trans rfl rfl
noncomputable def L_charge_steepest (i n : Nat) (s : St) : Option (E × St) := atN Tryz.prog c_charge_steepest an_charge_steepest 28 (bodyOf Tryz.f74) i n s
noncomputable def H_charge_steepest (n i : Nat) (s : St) : Option (E × St) := atH Tryz.prog c_charge_steepest an_charge_steepest 28 (bodyOf Tryz.f74) n i s
@[simp] theorem H_charge_steepest_eq (n i : Nat) (s : St) : H_charge_steepest n i s = L_charge_steepest i n (headOf (an_charge_steepest.loops.lookup i) s) := rfl
noncomputable def R_charge_steepest (i : Nat) (s : St) : Option (E × St) := stepL Tryz.prog c_charge_steepest an_charge_steepest 28 (bodyOf Tryz.f74) i s
theorem lok_charge_steepest : okLoops (bodyOf Tryz.f74) = true := by kernel_rfl
theorem L_charge_steepest_zero (i : Nat) (s : St) : L_charge_steepest i 0 s = none := rfl
theorem L_charge_steepest_succ (i n : Nat) (s : St) : L_charge_steepest i (n + 1) s = andThen (R_charge_steepest i s) (H_charge_steepest n i) := atN_succ lok_charge_steepest i n s
theorem R_charge_steepest_eq (i : Nat) (s : St) : R_charge_steepest i s = runS Tryz.prog c_charge_steepest (H_charge_steepest bigL) an_charge_steepest 28 (loopAt (bodyOf Tryz.f74) i) s := rfl
noncomputable def F_charge_steepest (ds : List D) : Option D := runF Tryz.prog c_charge_steepest an_charge_steepest 28 (bodyOf Tryz.f74) [.tmp 2] ds
theorem F_charge_steepest_eq (ds : List D) : F_charge_steepest ds = runG Tryz.prog c_charge_steepest (H_charge_steepest bigL) an_charge_steepest 28 (bodyOf Tryz.f74) [.tmp 2] ds := runG_eq lok_charge_steepest _ ds
theorem C_charge_steepest (ds : List D) (r : D) (h : F_charge_steepest ds = some r) : Contract Tryz.prog gl 74 ds r := contract_of mix Tryz.func74 rfl (by kernel_rfl) (by kernel_rfl) (by decide) (call := c_charge_steepest) ⟨callOf_ok cl_charge_steepest ⟨C_kiln_Kiln_Items, C_moist_Gradient, trivial⟩, callOfE_ok ce_charge_steepest trivial⟩ h
-- (*sawmill/kiln.Kiln).Done: loops []; state: params 0..0, then [2]
attribute [simp] Tryz.f75
noncomputable def an_kiln_Kiln_Done : Ann := ⟨[2], [], [], [], [], some [2], [(1, 13)], [], [], []⟩
@[simp] theorem an_kiln_Kiln_Done_draws : an_kiln_Kiln_Done.draws = [(1, 13)] := rfl
@[simp] theorem an_kiln_Kiln_Done_exits : an_kiln_Kiln_Done.exits = [] := rfl
@[simp] theorem an_kiln_Kiln_Done_rets : an_kiln_Kiln_Done.rets = some [2] := rfl
@[simp] theorem an_kiln_Kiln_Done_keep : an_kiln_Kiln_Done.keep = [2] := rfl
@[simp] theorem an_kiln_Kiln_Done_cond : an_kiln_Kiln_Done.cond = [] := rfl
@[simp] theorem an_kiln_Kiln_Done_rows : an_kiln_Kiln_Done.rows = [] := rfl
@[simp] theorem an_kiln_Kiln_Done_loops : an_kiln_Kiln_Done.loops = [] := rfl
@[simp] theorem an_kiln_Kiln_Done_ecalls : an_kiln_Kiln_Done.ecalls = [] := rfl
@[simp] theorem an_kiln_Kiln_Done_crows : an_kiln_Kiln_Done.crows = [] := rfl
@[simp] theorem an_kiln_Kiln_Done_tails : an_kiln_Kiln_Done.tails = [] := rfl
@[simp] noncomputable def cl_kiln_Kiln_Done : List (Nat × (List D → Option D)) := []
@[simp] noncomputable def ce_kiln_Kiln_Done : List (Nat × (List (Nat × O) → List D → Option (D × List (Nat × O)))) := []
noncomputable def c_kiln_Kiln_Done : CT := ⟨callOf (cl_kiln_Kiln_Done ), callOfE ce_kiln_Kiln_Done, gl⟩
@[simp] theorem c_kiln_Kiln_Done_p (f : FuncId) (ds : List D) : c_kiln_Kiln_Done.p f ds = callOf (cl_kiln_Kiln_Done ) f ds := Eq.trans rfl rfl
@[simp] theorem c_kiln_Kiln_Done_e (f : FuncId) (hs : List (Nat × O)) (ds : List D) : c_kiln_Kiln_Done.e f hs ds = callOfE ce_kiln_Kiln_Done f hs ds := Eq.trans rfl rfl
@[simp] theorem c_kiln_Kiln_Done_g (g : Nat) : c_kiln_Kiln_Done.g g = gl g := Eq.trans rfl rfl
noncomputable def L_kiln_Kiln_Done (i n : Nat) (s : St) : Option (E × St) := atN Tryz.prog c_kiln_Kiln_Done an_kiln_Kiln_Done 18 (bodyOf Tryz.f75) i n s
noncomputable def H_kiln_Kiln_Done (n i : Nat) (s : St) : Option (E × St) := atH Tryz.prog c_kiln_Kiln_Done an_kiln_Kiln_Done 18 (bodyOf Tryz.f75) n i s
@[simp] theorem H_kiln_Kiln_Done_eq (n i : Nat) (s : St) : H_kiln_Kiln_Done n i s = L_kiln_Kiln_Done i n (headOf (an_kiln_Kiln_Done.loops.lookup i) s) := rfl
noncomputable def R_kiln_Kiln_Done (i : Nat) (s : St) : Option (E × St) := stepL Tryz.prog c_kiln_Kiln_Done an_kiln_Kiln_Done 18 (bodyOf Tryz.f75) i s
theorem lok_kiln_Kiln_Done : okLoops (bodyOf Tryz.f75) = true := by kernel_rfl
noncomputable def F_kiln_Kiln_Done (ds : List D) : Option D := runF Tryz.prog c_kiln_Kiln_Done an_kiln_Kiln_Done 18 (bodyOf Tryz.f75) [.tmp 2] ds
theorem F_kiln_Kiln_Done_eq (ds : List D) : F_kiln_Kiln_Done ds = runG Tryz.prog c_kiln_Kiln_Done (H_kiln_Kiln_Done bigL) an_kiln_Kiln_Done 18 (bodyOf Tryz.f75) [.tmp 2] ds := runG_eq lok_kiln_Kiln_Done _ ds
theorem C_kiln_Kiln_Done (ds : List D) (r : D) (h : F_kiln_Kiln_Done ds = some r) : Contract Tryz.prog gl 75 ds r := contract_of mix Tryz.func75 rfl (by kernel_rfl) (by kernel_rfl) (by decide) (call := c_kiln_Kiln_Done) ⟨callOf_ok cl_kiln_Kiln_Done trivial, callOfE_ok ce_kiln_Kiln_Done trivial⟩ h
-- sawmill/charge.At: loops [3]; state: params 0..1, then [4, 5, 7, 8, 9, 10]
attribute [simp] Tryz.f17
noncomputable def an_charge_At : Ann := ⟨[4, 5, 7, 8, 9, 10], [11, 23], [5], [(3, [1, 5, 8, 9, 10])], [(0, [5]), (1, [1, 5, 8, 9, 10])], some [4], [], [(36, true), (37, true)], [], []⟩
@[simp] theorem an_charge_At_draws : an_charge_At.draws = [] := rfl
@[simp] theorem an_charge_At_exits : an_charge_At.exits = [(0, [5]), (1, [1, 5, 8, 9, 10])] := rfl
@[simp] theorem an_charge_At_rets : an_charge_At.rets = some [4] := rfl
@[simp] theorem an_charge_At_keep : an_charge_At.keep = [4, 5, 7, 8, 9, 10] := rfl
@[simp] theorem an_charge_At_cond : an_charge_At.cond = [11, 23] := rfl
@[simp] theorem an_charge_At_rows : an_charge_At.rows = [5] := rfl
@[simp] theorem an_charge_At_loops : an_charge_At.loops = [(3, [1, 5, 8, 9, 10])] := rfl
@[simp] theorem an_charge_At_ecalls : an_charge_At.ecalls = [(36, true), (37, true)] := rfl
@[simp] theorem an_charge_At_crows : an_charge_At.crows = [] := rfl
@[simp] theorem an_charge_At_tails : an_charge_At.tails = [] := rfl
@[simp] noncomputable def cl_charge_At : List (Nat × (List D → Option D)) := []
@[simp] noncomputable def ce_charge_At : List (Nat × (List (Nat × O) → List D → Option (D × List (Nat × O)))) := [(36, E_sortI), (37, E_compactI)]
noncomputable def c_charge_At : CT := ⟨callOf (cl_charge_At ), callOfE ce_charge_At, gl⟩
@[simp] theorem c_charge_At_p (f : FuncId) (ds : List D) : c_charge_At.p f ds = callOf (cl_charge_At ) f ds := Eq.trans rfl rfl
@[simp] theorem c_charge_At_e (f : FuncId) (hs : List (Nat × O)) (ds : List D) : c_charge_At.e f hs ds = callOfE ce_charge_At f hs ds := Eq.trans rfl rfl
@[simp] theorem c_charge_At_g (g : Nat) : c_charge_At.g g = gl g := Eq.trans rfl rfl
noncomputable def L_charge_At (i n : Nat) (s : St) : Option (E × St) := atN Tryz.prog c_charge_At an_charge_At 34 (bodyOf Tryz.f17) i n s
noncomputable def H_charge_At (n i : Nat) (s : St) : Option (E × St) := atH Tryz.prog c_charge_At an_charge_At 34 (bodyOf Tryz.f17) n i s
@[simp] theorem H_charge_At_eq (n i : Nat) (s : St) : H_charge_At n i s = L_charge_At i n (headOf (an_charge_At.loops.lookup i) s) := rfl
noncomputable def R_charge_At (i : Nat) (s : St) : Option (E × St) := stepL Tryz.prog c_charge_At an_charge_At 34 (bodyOf Tryz.f17) i s
theorem lok_charge_At : okLoops (bodyOf Tryz.f17) = true := by kernel_rfl
theorem L_charge_At_zero (i : Nat) (s : St) : L_charge_At i 0 s = none := rfl
theorem L_charge_At_succ (i n : Nat) (s : St) : L_charge_At i (n + 1) s = andThen (R_charge_At i s) (H_charge_At n i) := atN_succ lok_charge_At i n s
theorem R_charge_At_eq (i : Nat) (s : St) : R_charge_At i s = runS Tryz.prog c_charge_At (H_charge_At bigL) an_charge_At 34 (loopAt (bodyOf Tryz.f17) i) s := rfl
noncomputable def F_charge_At (ds : List D) : Option D := runF Tryz.prog c_charge_At an_charge_At 34 (bodyOf Tryz.f17) [.tmp 4] ds
theorem F_charge_At_eq (ds : List D) : F_charge_At ds = runG Tryz.prog c_charge_At (H_charge_At bigL) an_charge_At 34 (bodyOf Tryz.f17) [.tmp 4] ds := runG_eq lok_charge_At _ ds
theorem C_charge_At (ds : List D) (r : D) (h : F_charge_At ds = some r) : Contract Tryz.prog gl 17 ds r := contract_of mix Tryz.func17 rfl (by kernel_rfl) (by kernel_rfl) (by decide) (call := c_charge_At) ⟨callOf_ok cl_charge_At trivial, callOfE_ok ce_charge_At ⟨CE_sortI, CE_compactI, trivial⟩⟩ h
-- sawmill/schedule.Target: loops []; state: params 0..2, then [3, 5, 6, 7]
attribute [simp] Tryz.f96
noncomputable def an_schedule_Target : Ann := ⟨[1, 3, 5, 6, 7], [16], [], [], [], some [6], [], [], [], []⟩
@[simp] theorem an_schedule_Target_draws : an_schedule_Target.draws = [] := rfl
@[simp] theorem an_schedule_Target_exits : an_schedule_Target.exits = [] := rfl
@[simp] theorem an_schedule_Target_rets : an_schedule_Target.rets = some [6] := rfl
@[simp] theorem an_schedule_Target_keep : an_schedule_Target.keep = [1, 3, 5, 6, 7] := rfl
@[simp] theorem an_schedule_Target_cond : an_schedule_Target.cond = [16] := rfl
@[simp] theorem an_schedule_Target_rows : an_schedule_Target.rows = [] := rfl
@[simp] theorem an_schedule_Target_loops : an_schedule_Target.loops = [] := rfl
@[simp] theorem an_schedule_Target_ecalls : an_schedule_Target.ecalls = [] := rfl
@[simp] theorem an_schedule_Target_crows : an_schedule_Target.crows = [] := rfl
@[simp] theorem an_schedule_Target_tails : an_schedule_Target.tails = [] := rfl
@[simp] noncomputable def cl_schedule_Target : List (Nat × (List D → Option D)) := []
@[simp] noncomputable def ce_schedule_Target : List (Nat × (List (Nat × O) → List D → Option (D × List (Nat × O)))) := []
noncomputable def c_schedule_Target : CT := ⟨callOf (cl_schedule_Target ), callOfE ce_schedule_Target, gl⟩
@[simp] theorem c_schedule_Target_p (f : FuncId) (ds : List D) : c_schedule_Target.p f ds = callOf (cl_schedule_Target ) f ds := Eq.trans rfl rfl
@[simp] theorem c_schedule_Target_e (f : FuncId) (hs : List (Nat × O)) (ds : List D) : c_schedule_Target.e f hs ds = callOfE ce_schedule_Target f hs ds := Eq.trans rfl rfl
@[simp] theorem c_schedule_Target_g (g : Nat) : c_schedule_Target.g g = gl g := Eq.trans rfl rfl
noncomputable def L_schedule_Target (i n : Nat) (s : St) : Option (E × St) := atN Tryz.prog c_schedule_Target an_schedule_Target 34 (bodyOf Tryz.f96) i n s
noncomputable def H_schedule_Target (n i : Nat) (s : St) : Option (E × St) := atH Tryz.prog c_schedule_Target an_schedule_Target 34 (bodyOf Tryz.f96) n i s
@[simp] theorem H_schedule_Target_eq (n i : Nat) (s : St) : H_schedule_Target n i s = L_schedule_Target i n (headOf (an_schedule_Target.loops.lookup i) s) := rfl
noncomputable def R_schedule_Target (i : Nat) (s : St) : Option (E × St) := stepL Tryz.prog c_schedule_Target an_schedule_Target 34 (bodyOf Tryz.f96) i s
theorem lok_schedule_Target : okLoops (bodyOf Tryz.f96) = true := by kernel_rfl
noncomputable def F_schedule_Target (ds : List D) : Option D := runF Tryz.prog c_schedule_Target an_schedule_Target 34 (bodyOf Tryz.f96) [.cell 6 32] ds
theorem F_schedule_Target_eq (ds : List D) : F_schedule_Target ds = runG Tryz.prog c_schedule_Target (H_schedule_Target bigL) an_schedule_Target 34 (bodyOf Tryz.f96) [.cell 6 32] ds := runG_eq lok_schedule_Target _ ds
theorem C_schedule_Target (ds : List D) (r : D) (h : F_schedule_Target ds = some r) : Contract Tryz.prog gl 96 ds r := contract_of mix Tryz.func96 rfl (by kernel_rfl) (by kernel_rfl) (by decide) (call := c_schedule_Target) ⟨callOf_ok cl_schedule_Target trivial, callOfE_ok ce_schedule_Target trivial⟩ h
-- sawmill/units.Clamp: loops []; state: params 0..2, then [6]
attribute [simp] Tryz.f115
noncomputable def an_units_Clamp : Ann := ⟨[0, 1, 2, 6], [7, 17], [], [], [(0, [0])], some [6], [], [], [], []⟩
@[simp] theorem an_units_Clamp_draws : an_units_Clamp.draws = [] := rfl
@[simp] theorem an_units_Clamp_exits : an_units_Clamp.exits = [(0, [0])] := rfl
@[simp] theorem an_units_Clamp_rets : an_units_Clamp.rets = some [6] := rfl
@[simp] theorem an_units_Clamp_keep : an_units_Clamp.keep = [0, 1, 2, 6] := rfl
@[simp] theorem an_units_Clamp_cond : an_units_Clamp.cond = [7, 17] := rfl
@[simp] theorem an_units_Clamp_rows : an_units_Clamp.rows = [] := rfl
@[simp] theorem an_units_Clamp_loops : an_units_Clamp.loops = [] := rfl
@[simp] theorem an_units_Clamp_ecalls : an_units_Clamp.ecalls = [] := rfl
@[simp] theorem an_units_Clamp_crows : an_units_Clamp.crows = [] := rfl
@[simp] theorem an_units_Clamp_tails : an_units_Clamp.tails = [] := rfl
@[simp] noncomputable def cl_units_Clamp : List (Nat × (List D → Option D)) := []
@[simp] noncomputable def ce_units_Clamp : List (Nat × (List (Nat × O) → List D → Option (D × List (Nat × O)))) := []
noncomputable def c_units_Clamp : CT := ⟨callOf (cl_units_Clamp ), callOfE ce_units_Clamp, gl⟩
@[simp] theorem c_units_Clamp_p (f : FuncId) (ds : List D) : c_units_Clamp.p f ds = callOf (cl_units_Clamp ) f ds := Eq.trans rfl rfl
@[simp] theorem c_units_Clamp_e (f : FuncId) (hs : List (Nat × O)) (ds : List D) : c_units_Clamp.e f hs ds = callOfE ce_units_Clamp f hs ds := Eq.trans rfl rfl
@[simp] theorem c_units_Clamp_g (g : Nat) : c_units_Clamp.g g = gl g := Eq.trans rfl rfl
noncomputable def L_units_Clamp (i n : Nat) (s : St) : Option (E × St) := atN Tryz.prog c_units_Clamp an_units_Clamp 23 (bodyOf Tryz.f115) i n s
noncomputable def H_units_Clamp (n i : Nat) (s : St) : Option (E × St) := atH Tryz.prog c_units_Clamp an_units_Clamp 23 (bodyOf Tryz.f115) n i s
@[simp] theorem H_units_Clamp_eq (n i : Nat) (s : St) : H_units_Clamp n i s = L_units_Clamp i n (headOf (an_units_Clamp.loops.lookup i) s) := rfl
noncomputable def R_units_Clamp (i : Nat) (s : St) : Option (E × St) := stepL Tryz.prog c_units_Clamp an_units_Clamp 23 (bodyOf Tryz.f115) i s
theorem lok_units_Clamp : okLoops (bodyOf Tryz.f115) = true := by kernel_rfl
noncomputable def F_units_Clamp (ds : List D) : Option D := runF Tryz.prog c_units_Clamp an_units_Clamp 23 (bodyOf Tryz.f115) [.tmp 6] ds
theorem F_units_Clamp_eq (ds : List D) : F_units_Clamp ds = runG Tryz.prog c_units_Clamp (H_units_Clamp bigL) an_units_Clamp 23 (bodyOf Tryz.f115) [.tmp 6] ds := runG_eq lok_units_Clamp _ ds
theorem C_units_Clamp (ds : List D) (r : D) (h : F_units_Clamp ds = some r) : Contract Tryz.prog gl 115 ds r := contract_of mix Tryz.func115 rfl (by kernel_rfl) (by kernel_rfl) (by decide) (call := c_units_Clamp) ⟨callOf_ok cl_units_Clamp trivial, callOfE_ok ce_units_Clamp trivial⟩ h
-- sawmill/air.clamp: loops []; state: params 0..0, then [1, 2]
attribute [simp] Tryz.f113
noncomputable def an_air_clamp : Ann := ⟨[1, 2], [], [], [], [], some [2], [(1, 5)], [], [], []⟩
@[simp] theorem an_air_clamp_draws : an_air_clamp.draws = [(1, 5)] := rfl
@[simp] theorem an_air_clamp_exits : an_air_clamp.exits = [] := rfl
@[simp] theorem an_air_clamp_rets : an_air_clamp.rets = some [2] := rfl
@[simp] theorem an_air_clamp_keep : an_air_clamp.keep = [1, 2] := rfl
@[simp] theorem an_air_clamp_cond : an_air_clamp.cond = [] := rfl
@[simp] theorem an_air_clamp_rows : an_air_clamp.rows = [] := rfl
@[simp] theorem an_air_clamp_loops : an_air_clamp.loops = [] := rfl
@[simp] theorem an_air_clamp_ecalls : an_air_clamp.ecalls = [] := rfl
@[simp] theorem an_air_clamp_crows : an_air_clamp.crows = [] := rfl
@[simp] theorem an_air_clamp_tails : an_air_clamp.tails = [] := rfl
@[simp] noncomputable def cl_air_clamp : List (Nat × (List D → Option D)) := [(115, F_units_Clamp)]
@[simp] noncomputable def ce_air_clamp : List (Nat × (List (Nat × O) → List D → Option (D × List (Nat × O)))) := []
noncomputable def c_air_clamp : CT := ⟨callOf (cl_air_clamp ), callOfE ce_air_clamp, gl⟩
@[simp] theorem c_air_clamp_p (f : FuncId) (ds : List D) : c_air_clamp.p f ds = callOf (cl_air_clamp ) f ds := Eq.trans rfl rfl
@[simp] theorem c_air_clamp_e (f : FuncId) (hs : List (Nat × O)) (ds : List D) : c_air_clamp.e f hs ds = callOfE ce_air_clamp f hs ds := Eq.trans rfl rfl
@[simp] theorem c_air_clamp_g (g : Nat) : c_air_clamp.g g = gl g := Eq.trans rfl rfl
noncomputable def L_air_clamp (i n : Nat) (s : St) : Option (E × St) := atN Tryz.prog c_air_clamp an_air_clamp 10 (bodyOf Tryz.f113) i n s
noncomputable def H_air_clamp (n i : Nat) (s : St) : Option (E × St) := atH Tryz.prog c_air_clamp an_air_clamp 10 (bodyOf Tryz.f113) n i s
@[simp] theorem H_air_clamp_eq (n i : Nat) (s : St) : H_air_clamp n i s = L_air_clamp i n (headOf (an_air_clamp.loops.lookup i) s) := rfl
noncomputable def R_air_clamp (i : Nat) (s : St) : Option (E × St) := stepL Tryz.prog c_air_clamp an_air_clamp 10 (bodyOf Tryz.f113) i s
theorem lok_air_clamp : okLoops (bodyOf Tryz.f113) = true := by kernel_rfl
noncomputable def F_air_clamp (ds : List D) : Option D := runF Tryz.prog c_air_clamp an_air_clamp 10 (bodyOf Tryz.f113) [.cell 2 32] ds
theorem F_air_clamp_eq (ds : List D) : F_air_clamp ds = runG Tryz.prog c_air_clamp (H_air_clamp bigL) an_air_clamp 10 (bodyOf Tryz.f113) [.cell 2 32] ds := runG_eq lok_air_clamp _ ds
theorem C_air_clamp (ds : List D) (r : D) (h : F_air_clamp ds = some r) : Contract Tryz.prog gl 113 ds r := contract_of mix Tryz.func113 rfl (by kernel_rfl) (by kernel_rfl) (by decide) (call := c_air_clamp) ⟨callOf_ok cl_air_clamp ⟨C_units_Clamp, trivial⟩, callOfE_ok ce_air_clamp trivial⟩ h
-- slices.Index[[]int,int]: loops [2]; state: params 0..1, then [4, 5, 7, 8]
attribute [simp] Tryz.f130
noncomputable def an_slices_Index_int_int : Ann := ⟨[0, 4, 5, 7, 8], [9, 16], [], [(2, [0, 1, 7, 8])], [(0, []), (1, [0, 1, 7, 8])], some [4], [], [], [], []⟩
@[simp] theorem an_slices_Index_int_int_draws : an_slices_Index_int_int.draws = [] := rfl
@[simp] theorem an_slices_Index_int_int_exits : an_slices_Index_int_int.exits = [(0, []), (1, [0, 1, 7, 8])] := rfl
@[simp] theorem an_slices_Index_int_int_rets : an_slices_Index_int_int.rets = some [4] := rfl
@[simp] theorem an_slices_Index_int_int_keep : an_slices_Index_int_int.keep = [0, 4, 5, 7, 8] := rfl
@[simp] theorem an_slices_Index_int_int_cond : an_slices_Index_int_int.cond = [9, 16] := rfl
@[simp] theorem an_slices_Index_int_int_rows : an_slices_Index_int_int.rows = [] := rfl
@[simp] theorem an_slices_Index_int_int_loops : an_slices_Index_int_int.loops = [(2, [0, 1, 7, 8])] := rfl
@[simp] theorem an_slices_Index_int_int_ecalls : an_slices_Index_int_int.ecalls = [] := rfl
@[simp] theorem an_slices_Index_int_int_crows : an_slices_Index_int_int.crows = [] := rfl
@[simp] theorem an_slices_Index_int_int_tails : an_slices_Index_int_int.tails = [] := rfl
@[simp] noncomputable def cl_slices_Index_int_int : List (Nat × (List D → Option D)) := []
@[simp] noncomputable def ce_slices_Index_int_int : List (Nat × (List (Nat × O) → List D → Option (D × List (Nat × O)))) := []
noncomputable def c_slices_Index_int_int : CT := ⟨callOf (cl_slices_Index_int_int ), callOfE ce_slices_Index_int_int, gl⟩
@[simp] theorem c_slices_Index_int_int_p (f : FuncId) (ds : List D) : c_slices_Index_int_int.p f ds = callOf (cl_slices_Index_int_int ) f ds := Eq.trans rfl rfl
@[simp] theorem c_slices_Index_int_int_e (f : FuncId) (hs : List (Nat × O)) (ds : List D) : c_slices_Index_int_int.e f hs ds = callOfE ce_slices_Index_int_int f hs ds := Eq.trans rfl rfl
@[simp] theorem c_slices_Index_int_int_g (g : Nat) : c_slices_Index_int_int.g g = gl g := Eq.trans rfl rfl
noncomputable def L_slices_Index_int_int (i n : Nat) (s : St) : Option (E × St) := atN Tryz.prog c_slices_Index_int_int an_slices_Index_int_int 19 (bodyOf Tryz.f130) i n s
noncomputable def H_slices_Index_int_int (n i : Nat) (s : St) : Option (E × St) := atH Tryz.prog c_slices_Index_int_int an_slices_Index_int_int 19 (bodyOf Tryz.f130) n i s
@[simp] theorem H_slices_Index_int_int_eq (n i : Nat) (s : St) : H_slices_Index_int_int n i s = L_slices_Index_int_int i n (headOf (an_slices_Index_int_int.loops.lookup i) s) := rfl
noncomputable def R_slices_Index_int_int (i : Nat) (s : St) : Option (E × St) := stepL Tryz.prog c_slices_Index_int_int an_slices_Index_int_int 19 (bodyOf Tryz.f130) i s
theorem lok_slices_Index_int_int : okLoops (bodyOf Tryz.f130) = true := by kernel_rfl
theorem L_slices_Index_int_int_zero (i : Nat) (s : St) : L_slices_Index_int_int i 0 s = none := rfl
theorem L_slices_Index_int_int_succ (i n : Nat) (s : St) : L_slices_Index_int_int i (n + 1) s = andThen (R_slices_Index_int_int i s) (H_slices_Index_int_int n i) := atN_succ lok_slices_Index_int_int i n s
theorem R_slices_Index_int_int_eq (i : Nat) (s : St) : R_slices_Index_int_int i s = runS Tryz.prog c_slices_Index_int_int (H_slices_Index_int_int bigL) an_slices_Index_int_int 19 (loopAt (bodyOf Tryz.f130) i) s := rfl
noncomputable def F_slices_Index_int_int (ds : List D) : Option D := runF Tryz.prog c_slices_Index_int_int an_slices_Index_int_int 19 (bodyOf Tryz.f130) [.tmp 4] ds
theorem F_slices_Index_int_int_eq (ds : List D) : F_slices_Index_int_int ds = runG Tryz.prog c_slices_Index_int_int (H_slices_Index_int_int bigL) an_slices_Index_int_int 19 (bodyOf Tryz.f130) [.tmp 4] ds := runG_eq lok_slices_Index_int_int _ ds
theorem C_slices_Index_int_int (ds : List D) (r : D) (h : F_slices_Index_int_int ds = some r) : Contract Tryz.prog gl 130 ds r := contract_of mix Tryz.func130 rfl (by kernel_rfl) (by kernel_rfl) (by decide) (call := c_slices_Index_int_int) ⟨callOf_ok cl_slices_Index_int_int trivial, callOfE_ok ce_slices_Index_int_int trivial⟩ h
-- slices.Contains[[]int,int]: loops []; state: params 0..1, then [4]
attribute [simp] Tryz.f123
noncomputable def an_slices_Contains_int_int : Ann := ⟨[4], [], [], [], [], some [4], [], [], [], []⟩
@[simp] theorem an_slices_Contains_int_int_draws : an_slices_Contains_int_int.draws = [] := rfl
@[simp] theorem an_slices_Contains_int_int_exits : an_slices_Contains_int_int.exits = [] := rfl
@[simp] theorem an_slices_Contains_int_int_rets : an_slices_Contains_int_int.rets = some [4] := rfl
@[simp] theorem an_slices_Contains_int_int_keep : an_slices_Contains_int_int.keep = [4] := rfl
@[simp] theorem an_slices_Contains_int_int_cond : an_slices_Contains_int_int.cond = [] := rfl
@[simp] theorem an_slices_Contains_int_int_rows : an_slices_Contains_int_int.rows = [] := rfl
@[simp] theorem an_slices_Contains_int_int_loops : an_slices_Contains_int_int.loops = [] := rfl
@[simp] theorem an_slices_Contains_int_int_ecalls : an_slices_Contains_int_int.ecalls = [] := rfl
@[simp] theorem an_slices_Contains_int_int_crows : an_slices_Contains_int_int.crows = [] := rfl
@[simp] theorem an_slices_Contains_int_int_tails : an_slices_Contains_int_int.tails = [] := rfl
@[simp] noncomputable def cl_slices_Contains_int_int : List (Nat × (List D → Option D)) := [(130, F_slices_Index_int_int)]
@[simp] noncomputable def ce_slices_Contains_int_int : List (Nat × (List (Nat × O) → List D → Option (D × List (Nat × O)))) := []
noncomputable def c_slices_Contains_int_int : CT := ⟨callOf (cl_slices_Contains_int_int ), callOfE ce_slices_Contains_int_int, gl⟩
@[simp] theorem c_slices_Contains_int_int_p (f : FuncId) (ds : List D) : c_slices_Contains_int_int.p f ds = callOf (cl_slices_Contains_int_int ) f ds := Eq.trans rfl rfl
@[simp] theorem c_slices_Contains_int_int_e (f : FuncId) (hs : List (Nat × O)) (ds : List D) : c_slices_Contains_int_int.e f hs ds = callOfE ce_slices_Contains_int_int f hs ds := Eq.trans rfl rfl
@[simp] theorem c_slices_Contains_int_int_g (g : Nat) : c_slices_Contains_int_int.g g = gl g := Eq.trans rfl rfl
noncomputable def L_slices_Contains_int_int (i n : Nat) (s : St) : Option (E × St) := atN Tryz.prog c_slices_Contains_int_int an_slices_Contains_int_int 9 (bodyOf Tryz.f123) i n s
noncomputable def H_slices_Contains_int_int (n i : Nat) (s : St) : Option (E × St) := atH Tryz.prog c_slices_Contains_int_int an_slices_Contains_int_int 9 (bodyOf Tryz.f123) n i s
@[simp] theorem H_slices_Contains_int_int_eq (n i : Nat) (s : St) : H_slices_Contains_int_int n i s = L_slices_Contains_int_int i n (headOf (an_slices_Contains_int_int.loops.lookup i) s) := rfl
noncomputable def R_slices_Contains_int_int (i : Nat) (s : St) : Option (E × St) := stepL Tryz.prog c_slices_Contains_int_int an_slices_Contains_int_int 9 (bodyOf Tryz.f123) i s
theorem lok_slices_Contains_int_int : okLoops (bodyOf Tryz.f123) = true := by kernel_rfl
noncomputable def F_slices_Contains_int_int (ds : List D) : Option D := runF Tryz.prog c_slices_Contains_int_int an_slices_Contains_int_int 9 (bodyOf Tryz.f123) [.tmp 4] ds
theorem F_slices_Contains_int_int_eq (ds : List D) : F_slices_Contains_int_int ds = runG Tryz.prog c_slices_Contains_int_int (H_slices_Contains_int_int bigL) an_slices_Contains_int_int 9 (bodyOf Tryz.f123) [.tmp 4] ds := runG_eq lok_slices_Contains_int_int _ ds
theorem C_slices_Contains_int_int (ds : List D) (r : D) (h : F_slices_Contains_int_int ds = some r) : Contract Tryz.prog gl 123 ds r := contract_of mix Tryz.func123 rfl (by kernel_rfl) (by kernel_rfl) (by decide) (call := c_slices_Contains_int_int) ⟨callOf_ok cl_slices_Contains_int_int ⟨C_slices_Index_int_int, trivial⟩, callOfE_ok ce_slices_Contains_int_int trivial⟩ h
-- sawmill/air.toward: loops []; state: params 0..1, then [2, 4, 5, 6]
attribute [simp] Tryz.f114
noncomputable def an_air_toward : Ann := ⟨[1, 2, 4, 5, 6], [11, 16, 18], [], [], [(0, [2, 4]), (1, [2, 4]), (2, [2, 4]), (3, [2, 4])], some [4], [], [], [], []⟩
@[simp] theorem an_air_toward_draws : an_air_toward.draws = [] := rfl
@[simp] theorem an_air_toward_exits : an_air_toward.exits = [(0, [2, 4]), (1, [2, 4]), (2, [2, 4]), (3, [2, 4])] := rfl
@[simp] theorem an_air_toward_rets : an_air_toward.rets = some [4] := rfl
@[simp] theorem an_air_toward_keep : an_air_toward.keep = [1, 2, 4, 5, 6] := rfl
@[simp] theorem an_air_toward_cond : an_air_toward.cond = [11, 16, 18] := rfl
@[simp] theorem an_air_toward_rows : an_air_toward.rows = [] := rfl
@[simp] theorem an_air_toward_loops : an_air_toward.loops = [] := rfl
@[simp] theorem an_air_toward_ecalls : an_air_toward.ecalls = [] := rfl
@[simp] theorem an_air_toward_crows : an_air_toward.crows = [] := rfl
@[simp] theorem an_air_toward_tails : an_air_toward.tails = [] := rfl
@[simp] noncomputable def cl_air_toward : List (Nat × (List D → Option D)) := [(72, F_air_Outside), (123, F_slices_Contains_int_int)]
@[simp] noncomputable def ce_air_toward : List (Nat × (List (Nat × O) → List D → Option (D × List (Nat × O)))) := []
noncomputable def c_air_toward : CT := ⟨callOf (cl_air_toward ), callOfE ce_air_toward, gl⟩
@[simp] theorem c_air_toward_p (f : FuncId) (ds : List D) : c_air_toward.p f ds = callOf (cl_air_toward ) f ds := Eq.trans rfl rfl
@[simp] theorem c_air_toward_e (f : FuncId) (hs : List (Nat × O)) (ds : List D) : c_air_toward.e f hs ds = callOfE ce_air_toward f hs ds := Eq.trans rfl rfl
@[simp] theorem c_air_toward_g (g : Nat) : c_air_toward.g g = gl g := Eq.trans rfl rfl
noncomputable def L_air_toward (i n : Nat) (s : St) : Option (E × St) := atN Tryz.prog c_air_toward an_air_toward 30 (bodyOf Tryz.f114) i n s
noncomputable def H_air_toward (n i : Nat) (s : St) : Option (E × St) := atH Tryz.prog c_air_toward an_air_toward 30 (bodyOf Tryz.f114) n i s
@[simp] theorem H_air_toward_eq (n i : Nat) (s : St) : H_air_toward n i s = L_air_toward i n (headOf (an_air_toward.loops.lookup i) s) := rfl
noncomputable def R_air_toward (i : Nat) (s : St) : Option (E × St) := stepL Tryz.prog c_air_toward an_air_toward 30 (bodyOf Tryz.f114) i s
theorem lok_air_toward : okLoops (bodyOf Tryz.f114) = true := by kernel_rfl
noncomputable def F_air_toward (ds : List D) : Option D := runF Tryz.prog c_air_toward an_air_toward 30 (bodyOf Tryz.f114) [.cell 4 32] ds
theorem F_air_toward_eq (ds : List D) : F_air_toward ds = runG Tryz.prog c_air_toward (H_air_toward bigL) an_air_toward 30 (bodyOf Tryz.f114) [.cell 4 32] ds := runG_eq lok_air_toward _ ds
theorem C_air_toward (ds : List D) (r : D) (h : F_air_toward ds = some r) : Contract Tryz.prog gl 114 ds r := contract_of mix Tryz.func114 rfl (by kernel_rfl) (by kernel_rfl) (by decide) (call := c_air_toward) ⟨callOf_ok cl_air_toward ⟨C_air_Outside, C_slices_Contains_int_int, trivial⟩, callOfE_ok ce_air_toward trivial⟩ h
-- sawmill/air.Next: loops []; state: params 0..3, then [4, 5, 8, 9]
attribute [simp] Tryz.f97
noncomputable def an_air_Next : Ann := ⟨[2, 4, 5, 8, 9], [], [], [], [], some [8], [(4, 21)], [], [], []⟩
@[simp] theorem an_air_Next_draws : an_air_Next.draws = [(4, 21)] := rfl
@[simp] theorem an_air_Next_exits : an_air_Next.exits = [] := rfl
@[simp] theorem an_air_Next_rets : an_air_Next.rets = some [8] := rfl
@[simp] theorem an_air_Next_keep : an_air_Next.keep = [2, 4, 5, 8, 9] := rfl
@[simp] theorem an_air_Next_cond : an_air_Next.cond = [] := rfl
@[simp] theorem an_air_Next_rows : an_air_Next.rows = [] := rfl
@[simp] theorem an_air_Next_loops : an_air_Next.loops = [] := rfl
@[simp] theorem an_air_Next_ecalls : an_air_Next.ecalls = [] := rfl
@[simp] theorem an_air_Next_crows : an_air_Next.crows = [] := rfl
@[simp] theorem an_air_Next_tails : an_air_Next.tails = [] := rfl
@[simp] noncomputable def cl_air_Next : List (Nat × (List D → Option D)) := [(113, F_air_clamp), (114, F_air_toward), (115, F_units_Clamp)]
@[simp] noncomputable def ce_air_Next : List (Nat × (List (Nat × O) → List D → Option (D × List (Nat × O)))) := []
noncomputable def c_air_Next : CT := ⟨callOf (cl_air_Next ), callOfE ce_air_Next, gl⟩
@[simp] theorem c_air_Next_p (f : FuncId) (ds : List D) : c_air_Next.p f ds = callOf (cl_air_Next ) f ds := Eq.trans rfl rfl
@[simp] theorem c_air_Next_e (f : FuncId) (hs : List (Nat × O)) (ds : List D) : c_air_Next.e f hs ds = callOfE ce_air_Next f hs ds := Eq.trans rfl rfl
@[simp] theorem c_air_Next_g (g : Nat) : c_air_Next.g g = gl g := Eq.trans rfl rfl
noncomputable def L_air_Next (i n : Nat) (s : St) : Option (E × St) := atN Tryz.prog c_air_Next an_air_Next 41 (bodyOf Tryz.f97) i n s
noncomputable def H_air_Next (n i : Nat) (s : St) : Option (E × St) := atH Tryz.prog c_air_Next an_air_Next 41 (bodyOf Tryz.f97) n i s
@[simp] theorem H_air_Next_eq (n i : Nat) (s : St) : H_air_Next n i s = L_air_Next i n (headOf (an_air_Next.loops.lookup i) s) := rfl
noncomputable def R_air_Next (i : Nat) (s : St) : Option (E × St) := stepL Tryz.prog c_air_Next an_air_Next 41 (bodyOf Tryz.f97) i s
theorem lok_air_Next : okLoops (bodyOf Tryz.f97) = true := by kernel_rfl
noncomputable def F_air_Next (ds : List D) : Option D := runF Tryz.prog c_air_Next an_air_Next 41 (bodyOf Tryz.f97) [.cell 8 32] ds
theorem F_air_Next_eq (ds : List D) : F_air_Next ds = runG Tryz.prog c_air_Next (H_air_Next bigL) an_air_Next 41 (bodyOf Tryz.f97) [.cell 8 32] ds := runG_eq lok_air_Next _ ds
theorem C_air_Next (ds : List D) (r : D) (h : F_air_Next ds = some r) : Contract Tryz.prog gl 97 ds r := contract_of mix Tryz.func97 rfl (by kernel_rfl) (by kernel_rfl) (by decide) (call := c_air_Next) ⟨callOf_ok cl_air_Next ⟨C_air_clamp, C_air_toward, C_units_Clamp, trivial⟩, callOfE_ok ce_air_Next trivial⟩ h
-- sawmill/kiln.still: loops [2]; state: params 0..0, then [2, 4, 5, 6, 7]
attribute [simp] Tryz.f98
noncomputable def an_kiln_still : Ann := ⟨[2, 4, 5, 6, 7], [8, 21], [], [(2, [5, 6, 7])], [(0, []), (1, [5, 6, 7])], some [2], [], [], [], []⟩
@[simp] theorem an_kiln_still_draws : an_kiln_still.draws = [] := rfl
@[simp] theorem an_kiln_still_exits : an_kiln_still.exits = [(0, []), (1, [5, 6, 7])] := rfl
@[simp] theorem an_kiln_still_rets : an_kiln_still.rets = some [2] := rfl
@[simp] theorem an_kiln_still_keep : an_kiln_still.keep = [2, 4, 5, 6, 7] := rfl
@[simp] theorem an_kiln_still_cond : an_kiln_still.cond = [8, 21] := rfl
@[simp] theorem an_kiln_still_rows : an_kiln_still.rows = [] := rfl
@[simp] theorem an_kiln_still_loops : an_kiln_still.loops = [(2, [5, 6, 7])] := rfl
@[simp] theorem an_kiln_still_ecalls : an_kiln_still.ecalls = [] := rfl
@[simp] theorem an_kiln_still_crows : an_kiln_still.crows = [] := rfl
@[simp] theorem an_kiln_still_tails : an_kiln_still.tails = [] := rfl
@[simp] noncomputable def cl_kiln_still : List (Nat × (List D → Option D)) := []
@[simp] noncomputable def ce_kiln_still : List (Nat × (List (Nat × O) → List D → Option (D × List (Nat × O)))) := []
noncomputable def c_kiln_still : CT := ⟨callOf (cl_kiln_still ), callOfE ce_kiln_still, gl⟩
@[simp] theorem c_kiln_still_p (f : FuncId) (ds : List D) : c_kiln_still.p f ds = callOf (cl_kiln_still ) f ds := Eq.trans rfl rfl
@[simp] theorem c_kiln_still_e (f : FuncId) (hs : List (Nat × O)) (ds : List D) : c_kiln_still.e f hs ds = callOfE ce_kiln_still f hs ds := Eq.trans rfl rfl
@[simp] theorem c_kiln_still_g (g : Nat) : c_kiln_still.g g = gl g := Eq.trans rfl rfl
noncomputable def L_kiln_still (i n : Nat) (s : St) : Option (E × St) := atN Tryz.prog c_kiln_still an_kiln_still 23 (bodyOf Tryz.f98) i n s
noncomputable def H_kiln_still (n i : Nat) (s : St) : Option (E × St) := atH Tryz.prog c_kiln_still an_kiln_still 23 (bodyOf Tryz.f98) n i s
@[simp] theorem H_kiln_still_eq (n i : Nat) (s : St) : H_kiln_still n i s = L_kiln_still i n (headOf (an_kiln_still.loops.lookup i) s) := rfl
noncomputable def R_kiln_still (i : Nat) (s : St) : Option (E × St) := stepL Tryz.prog c_kiln_still an_kiln_still 23 (bodyOf Tryz.f98) i s
theorem lok_kiln_still : okLoops (bodyOf Tryz.f98) = true := by kernel_rfl
theorem L_kiln_still_zero (i : Nat) (s : St) : L_kiln_still i 0 s = none := rfl
theorem L_kiln_still_succ (i n : Nat) (s : St) : L_kiln_still i (n + 1) s = andThen (R_kiln_still i s) (H_kiln_still n i) := atN_succ lok_kiln_still i n s
theorem R_kiln_still_eq (i : Nat) (s : St) : R_kiln_still i s = runS Tryz.prog c_kiln_still (H_kiln_still bigL) an_kiln_still 23 (loopAt (bodyOf Tryz.f98) i) s := rfl
noncomputable def F_kiln_still (ds : List D) : Option D := runF Tryz.prog c_kiln_still an_kiln_still 23 (bodyOf Tryz.f98) [.tmp 2] ds
theorem F_kiln_still_eq (ds : List D) : F_kiln_still ds = runG Tryz.prog c_kiln_still (H_kiln_still bigL) an_kiln_still 23 (bodyOf Tryz.f98) [.tmp 2] ds := runG_eq lok_kiln_still _ ds
theorem C_kiln_still (ds : List D) (r : D) (h : F_kiln_still ds = some r) : Contract Tryz.prog gl 98 ds r := contract_of mix Tryz.func98 rfl (by kernel_rfl) (by kernel_rfl) (by decide) (call := c_kiln_still) ⟨callOf_ok cl_kiln_still trivial, callOfE_ok ce_kiln_still trivial⟩ h
-- sawmill/air.Check: loops []; state: params 0..0, then [1, 2]
attribute [simp] Tryz.f131
noncomputable def an_air_Check : Ann := ⟨[1, 2], [20], [], [], [], some [2], [], [], [], []⟩
@[simp] theorem an_air_Check_draws : an_air_Check.draws = [] := rfl
@[simp] theorem an_air_Check_exits : an_air_Check.exits = [] := rfl
@[simp] theorem an_air_Check_rets : an_air_Check.rets = some [2] := rfl
@[simp] theorem an_air_Check_keep : an_air_Check.keep = [1, 2] := rfl
@[simp] theorem an_air_Check_cond : an_air_Check.cond = [20] := rfl
@[simp] theorem an_air_Check_rows : an_air_Check.rows = [] := rfl
@[simp] theorem an_air_Check_loops : an_air_Check.loops = [] := rfl
@[simp] theorem an_air_Check_ecalls : an_air_Check.ecalls = [] := rfl
@[simp] theorem an_air_Check_crows : an_air_Check.crows = [] := rfl
@[simp] theorem an_air_Check_tails : an_air_Check.tails = [] := rfl
@[simp] noncomputable def cl_air_Check : List (Nat × (List D → Option D)) := []
@[simp] noncomputable def ce_air_Check : List (Nat × (List (Nat × O) → List D → Option (D × List (Nat × O)))) := []
noncomputable def c_air_Check : CT := ⟨callOf (cl_air_Check ), callOfE ce_air_Check, gl⟩
@[simp] theorem c_air_Check_p (f : FuncId) (ds : List D) : c_air_Check.p f ds = callOf (cl_air_Check ) f ds := Eq.trans rfl rfl
@[simp] theorem c_air_Check_e (f : FuncId) (hs : List (Nat × O)) (ds : List D) : c_air_Check.e f hs ds = callOfE ce_air_Check f hs ds := Eq.trans rfl rfl
@[simp] theorem c_air_Check_g (g : Nat) : c_air_Check.g g = gl g := Eq.trans rfl rfl
noncomputable def L_air_Check (i n : Nat) (s : St) : Option (E × St) := atN Tryz.prog c_air_Check an_air_Check 21 (bodyOf Tryz.f131) i n s
noncomputable def H_air_Check (n i : Nat) (s : St) : Option (E × St) := atH Tryz.prog c_air_Check an_air_Check 21 (bodyOf Tryz.f131) n i s
@[simp] theorem H_air_Check_eq (n i : Nat) (s : St) : H_air_Check n i s = L_air_Check i n (headOf (an_air_Check.loops.lookup i) s) := rfl
noncomputable def R_air_Check (i : Nat) (s : St) : Option (E × St) := stepL Tryz.prog c_air_Check an_air_Check 21 (bodyOf Tryz.f131) i s
theorem lok_air_Check : okLoops (bodyOf Tryz.f131) = true := by kernel_rfl
noncomputable def F_air_Check (ds : List D) : Option D := runF Tryz.prog c_air_Check an_air_Check 21 (bodyOf Tryz.f131) [.tmp 2] ds
theorem F_air_Check_eq (ds : List D) : F_air_Check ds = runG Tryz.prog c_air_Check (H_air_Check bigL) an_air_Check 21 (bodyOf Tryz.f131) [.tmp 2] ds := runG_eq lok_air_Check _ ds
theorem C_air_Check (ds : List D) (r : D) (h : F_air_Check ds = some r) : Contract Tryz.prog gl 131 ds r := contract_of mix Tryz.func131 rfl (by kernel_rfl) (by kernel_rfl) (by decide) (call := c_air_Check) ⟨callOf_ok cl_air_Check trivial, callOfE_ok ce_air_Check trivial⟩ h
-- sawmill/moist.computable: loops []; state: params 0..3, then [4, 5, 7, 8]
attribute [simp] Tryz.f124
noncomputable def an_moist_computable : Ann := ⟨[4, 5, 7, 8], [], [], [], [], some [8], [], [], [], []⟩
@[simp] theorem an_moist_computable_draws : an_moist_computable.draws = [] := rfl
@[simp] theorem an_moist_computable_exits : an_moist_computable.exits = [] := rfl
@[simp] theorem an_moist_computable_rets : an_moist_computable.rets = some [8] := rfl
@[simp] theorem an_moist_computable_keep : an_moist_computable.keep = [4, 5, 7, 8] := rfl
@[simp] theorem an_moist_computable_cond : an_moist_computable.cond = [] := rfl
@[simp] theorem an_moist_computable_rows : an_moist_computable.rows = [] := rfl
@[simp] theorem an_moist_computable_loops : an_moist_computable.loops = [] := rfl
@[simp] theorem an_moist_computable_ecalls : an_moist_computable.ecalls = [] := rfl
@[simp] theorem an_moist_computable_crows : an_moist_computable.crows = [] := rfl
@[simp] theorem an_moist_computable_tails : an_moist_computable.tails = [] := rfl
@[simp] noncomputable def cl_moist_computable : List (Nat × (List D → Option D)) := [(19, F_moist_Check), (131, F_air_Check)]
@[simp] noncomputable def ce_moist_computable : List (Nat × (List (Nat × O) → List D → Option (D × List (Nat × O)))) := []
noncomputable def c_moist_computable : CT := ⟨callOf (cl_moist_computable ), callOfE ce_moist_computable, gl⟩
@[simp] theorem c_moist_computable_p (f : FuncId) (ds : List D) : c_moist_computable.p f ds = callOf (cl_moist_computable ) f ds := Eq.trans rfl rfl
@[simp] theorem c_moist_computable_e (f : FuncId) (hs : List (Nat × O)) (ds : List D) : c_moist_computable.e f hs ds = callOfE ce_moist_computable f hs ds := Eq.trans rfl rfl
@[simp] theorem c_moist_computable_g (g : Nat) : c_moist_computable.g g = gl g := Eq.trans rfl rfl
noncomputable def L_moist_computable (i n : Nat) (s : St) : Option (E × St) := atN Tryz.prog c_moist_computable an_moist_computable 55 (bodyOf Tryz.f124) i n s
noncomputable def H_moist_computable (n i : Nat) (s : St) : Option (E × St) := atH Tryz.prog c_moist_computable an_moist_computable 55 (bodyOf Tryz.f124) n i s
@[simp] theorem H_moist_computable_eq (n i : Nat) (s : St) : H_moist_computable n i s = L_moist_computable i n (headOf (an_moist_computable.loops.lookup i) s) := rfl
noncomputable def R_moist_computable (i : Nat) (s : St) : Option (E × St) := stepL Tryz.prog c_moist_computable an_moist_computable 55 (bodyOf Tryz.f124) i s
theorem lok_moist_computable : okLoops (bodyOf Tryz.f124) = true := by kernel_rfl
noncomputable def F_moist_computable (ds : List D) : Option D := runF Tryz.prog c_moist_computable an_moist_computable 55 (bodyOf Tryz.f124) [.tmp 8] ds
theorem F_moist_computable_eq (ds : List D) : F_moist_computable ds = runG Tryz.prog c_moist_computable (H_moist_computable bigL) an_moist_computable 55 (bodyOf Tryz.f124) [.tmp 8] ds := runG_eq lok_moist_computable _ ds
theorem C_moist_computable (ds : List D) (r : D) (h : F_moist_computable ds = some r) : Contract Tryz.prog gl 124 ds r := contract_of mix Tryz.func124 rfl (by kernel_rfl) (by kernel_rfl) (by decide) (call := c_moist_computable) ⟨callOf_ok cl_moist_computable ⟨C_moist_Check, C_air_Check, trivial⟩, callOfE_ok ce_moist_computable trivial⟩ h
-- sawmill/air.Table: loops []; state: params 0..-1, then [0]
attribute [simp] Tryz.f135
noncomputable def an_air_Table : Ann := ⟨[0], [], [], [], [], some [0], [], [], [], []⟩
@[simp] theorem an_air_Table_draws : an_air_Table.draws = [] := rfl
@[simp] theorem an_air_Table_exits : an_air_Table.exits = [] := rfl
@[simp] theorem an_air_Table_rets : an_air_Table.rets = some [0] := rfl
@[simp] theorem an_air_Table_keep : an_air_Table.keep = [0] := rfl
@[simp] theorem an_air_Table_cond : an_air_Table.cond = [] := rfl
@[simp] theorem an_air_Table_rows : an_air_Table.rows = [] := rfl
@[simp] theorem an_air_Table_loops : an_air_Table.loops = [] := rfl
@[simp] theorem an_air_Table_ecalls : an_air_Table.ecalls = [] := rfl
@[simp] theorem an_air_Table_crows : an_air_Table.crows = [] := rfl
@[simp] theorem an_air_Table_tails : an_air_Table.tails = [] := rfl
@[simp] noncomputable def cl_air_Table : List (Nat × (List D → Option D)) := []
@[simp] noncomputable def ce_air_Table : List (Nat × (List (Nat × O) → List D → Option (D × List (Nat × O)))) := []
noncomputable def c_air_Table : CT := ⟨callOf (cl_air_Table ), callOfE ce_air_Table, gl⟩
@[simp] theorem c_air_Table_p (f : FuncId) (ds : List D) : c_air_Table.p f ds = callOf (cl_air_Table ) f ds := Eq.trans rfl rfl
@[simp] theorem c_air_Table_e (f : FuncId) (hs : List (Nat × O)) (ds : List D) : c_air_Table.e f hs ds = callOfE ce_air_Table f hs ds := Eq.trans rfl rfl
@[simp] theorem c_air_Table_g (g : Nat) : c_air_Table.g g = gl g := Eq.trans rfl rfl
noncomputable def L_air_Table (i n : Nat) (s : St) : Option (E × St) := atN Tryz.prog c_air_Table an_air_Table 11 (bodyOf Tryz.f135) i n s
noncomputable def H_air_Table (n i : Nat) (s : St) : Option (E × St) := atH Tryz.prog c_air_Table an_air_Table 11 (bodyOf Tryz.f135) n i s
@[simp] theorem H_air_Table_eq (n i : Nat) (s : St) : H_air_Table n i s = L_air_Table i n (headOf (an_air_Table.loops.lookup i) s) := rfl
noncomputable def R_air_Table (i : Nat) (s : St) : Option (E × St) := stepL Tryz.prog c_air_Table an_air_Table 11 (bodyOf Tryz.f135) i s
theorem lok_air_Table : okLoops (bodyOf Tryz.f135) = true := by kernel_rfl
noncomputable def F_air_Table (ds : List D) : Option D := runF Tryz.prog c_air_Table an_air_Table 11 (bodyOf Tryz.f135) [.cell 0 168] ds
theorem F_air_Table_eq (ds : List D) : F_air_Table ds = runG Tryz.prog c_air_Table (H_air_Table bigL) an_air_Table 11 (bodyOf Tryz.f135) [.cell 0 168] ds := runG_eq lok_air_Table _ ds
theorem C_air_Table (ds : List D) (r : D) (h : F_air_Table ds = some r) : Contract Tryz.prog gl 135 ds r := contract_of mix Tryz.func135 rfl (by kernel_rfl) (by kernel_rfl) (by decide) (call := c_air_Table) ⟨callOf_ok cl_air_Table trivial, callOfE_ok ce_air_Table trivial⟩ h
-- sawmill/curve.inRange: loops []; state: params 0..0, then [2]
attribute [simp] Tryz.f146
noncomputable def an_curve_inRange : Ann := ⟨[2], [], [], [], [], some [2], [], [], [], []⟩
@[simp] theorem an_curve_inRange_draws : an_curve_inRange.draws = [] := rfl
@[simp] theorem an_curve_inRange_exits : an_curve_inRange.exits = [] := rfl
@[simp] theorem an_curve_inRange_rets : an_curve_inRange.rets = some [2] := rfl
@[simp] theorem an_curve_inRange_keep : an_curve_inRange.keep = [2] := rfl
@[simp] theorem an_curve_inRange_cond : an_curve_inRange.cond = [] := rfl
@[simp] theorem an_curve_inRange_rows : an_curve_inRange.rows = [] := rfl
@[simp] theorem an_curve_inRange_loops : an_curve_inRange.loops = [] := rfl
@[simp] theorem an_curve_inRange_ecalls : an_curve_inRange.ecalls = [] := rfl
@[simp] theorem an_curve_inRange_crows : an_curve_inRange.crows = [] := rfl
@[simp] theorem an_curve_inRange_tails : an_curve_inRange.tails = [] := rfl
@[simp] noncomputable def cl_curve_inRange : List (Nat × (List D → Option D)) := []
@[simp] noncomputable def ce_curve_inRange : List (Nat × (List (Nat × O) → List D → Option (D × List (Nat × O)))) := []
noncomputable def c_curve_inRange : CT := ⟨callOf (cl_curve_inRange ), callOfE ce_curve_inRange, gl⟩
@[simp] theorem c_curve_inRange_p (f : FuncId) (ds : List D) : c_curve_inRange.p f ds = callOf (cl_curve_inRange ) f ds := Eq.trans rfl rfl
@[simp] theorem c_curve_inRange_e (f : FuncId) (hs : List (Nat × O)) (ds : List D) : c_curve_inRange.e f hs ds = callOfE ce_curve_inRange f hs ds := Eq.trans rfl rfl
@[simp] theorem c_curve_inRange_g (g : Nat) : c_curve_inRange.g g = gl g := Eq.trans rfl rfl
noncomputable def L_curve_inRange (i n : Nat) (s : St) : Option (E × St) := atN Tryz.prog c_curve_inRange an_curve_inRange 9 (bodyOf Tryz.f146) i n s
noncomputable def H_curve_inRange (n i : Nat) (s : St) : Option (E × St) := atH Tryz.prog c_curve_inRange an_curve_inRange 9 (bodyOf Tryz.f146) n i s
@[simp] theorem H_curve_inRange_eq (n i : Nat) (s : St) : H_curve_inRange n i s = L_curve_inRange i n (headOf (an_curve_inRange.loops.lookup i) s) := rfl
noncomputable def R_curve_inRange (i : Nat) (s : St) : Option (E × St) := stepL Tryz.prog c_curve_inRange an_curve_inRange 9 (bodyOf Tryz.f146) i s
theorem lok_curve_inRange : okLoops (bodyOf Tryz.f146) = true := by kernel_rfl
noncomputable def F_curve_inRange (ds : List D) : Option D := runF Tryz.prog c_curve_inRange an_curve_inRange 9 (bodyOf Tryz.f146) [.tmp 2] ds
theorem F_curve_inRange_eq (ds : List D) : F_curve_inRange ds = runG Tryz.prog c_curve_inRange (H_curve_inRange bigL) an_curve_inRange 9 (bodyOf Tryz.f146) [.tmp 2] ds := runG_eq lok_curve_inRange _ ds
theorem C_curve_inRange (ds : List D) (r : D) (h : F_curve_inRange ds = some r) : Contract Tryz.prog gl 146 ds r := contract_of mix Tryz.func146 rfl (by kernel_rfl) (by kernel_rfl) (by decide) (call := c_curve_inRange) ⟨callOf_ok cl_curve_inRange trivial, callOfE_ok ce_curve_inRange trivial⟩ h
-- sawmill/curve.checkAxis: loops [2]; state: params 0..0, then [2, 3, 4, 5, 6, 7]
attribute [simp] Tryz.f145
noncomputable def an_curve_checkAxis : Ann := ⟨[0, 2, 3, 4, 5, 6, 7], [8, 14, 25], [], [(2, [0, 5, 6, 7])], [(0, []), (1, [0, 5, 6, 7])], some [2], [], [], [], []⟩
@[simp] theorem an_curve_checkAxis_draws : an_curve_checkAxis.draws = [] := rfl
@[simp] theorem an_curve_checkAxis_exits : an_curve_checkAxis.exits = [(0, []), (1, [0, 5, 6, 7])] := rfl
@[simp] theorem an_curve_checkAxis_rets : an_curve_checkAxis.rets = some [2] := rfl
@[simp] theorem an_curve_checkAxis_keep : an_curve_checkAxis.keep = [0, 2, 3, 4, 5, 6, 7] := rfl
@[simp] theorem an_curve_checkAxis_cond : an_curve_checkAxis.cond = [8, 14, 25] := rfl
@[simp] theorem an_curve_checkAxis_rows : an_curve_checkAxis.rows = [] := rfl
@[simp] theorem an_curve_checkAxis_loops : an_curve_checkAxis.loops = [(2, [0, 5, 6, 7])] := rfl
@[simp] theorem an_curve_checkAxis_ecalls : an_curve_checkAxis.ecalls = [] := rfl
@[simp] theorem an_curve_checkAxis_crows : an_curve_checkAxis.crows = [] := rfl
@[simp] theorem an_curve_checkAxis_tails : an_curve_checkAxis.tails = [] := rfl
@[simp] noncomputable def cl_curve_checkAxis : List (Nat × (List D → Option D)) := [(146, F_curve_inRange)]
@[simp] noncomputable def ce_curve_checkAxis : List (Nat × (List (Nat × O) → List D → Option (D × List (Nat × O)))) := []
noncomputable def c_curve_checkAxis : CT := ⟨callOf (cl_curve_checkAxis ), callOfE ce_curve_checkAxis, gl⟩
@[simp] theorem c_curve_checkAxis_p (f : FuncId) (ds : List D) : c_curve_checkAxis.p f ds = callOf (cl_curve_checkAxis ) f ds := Eq.trans rfl rfl
@[simp] theorem c_curve_checkAxis_e (f : FuncId) (hs : List (Nat × O)) (ds : List D) : c_curve_checkAxis.e f hs ds = callOfE ce_curve_checkAxis f hs ds := Eq.trans rfl rfl
@[simp] theorem c_curve_checkAxis_g (g : Nat) : c_curve_checkAxis.g g = gl g := Eq.trans rfl rfl
noncomputable def L_curve_checkAxis (i n : Nat) (s : St) : Option (E × St) := atN Tryz.prog c_curve_checkAxis an_curve_checkAxis 27 (bodyOf Tryz.f145) i n s
noncomputable def H_curve_checkAxis (n i : Nat) (s : St) : Option (E × St) := atH Tryz.prog c_curve_checkAxis an_curve_checkAxis 27 (bodyOf Tryz.f145) n i s
@[simp] theorem H_curve_checkAxis_eq (n i : Nat) (s : St) : H_curve_checkAxis n i s = L_curve_checkAxis i n (headOf (an_curve_checkAxis.loops.lookup i) s) := rfl
noncomputable def R_curve_checkAxis (i : Nat) (s : St) : Option (E × St) := stepL Tryz.prog c_curve_checkAxis an_curve_checkAxis 27 (bodyOf Tryz.f145) i s
theorem lok_curve_checkAxis : okLoops (bodyOf Tryz.f145) = true := by kernel_rfl
theorem L_curve_checkAxis_zero (i : Nat) (s : St) : L_curve_checkAxis i 0 s = none := rfl
theorem L_curve_checkAxis_succ (i n : Nat) (s : St) : L_curve_checkAxis i (n + 1) s = andThen (R_curve_checkAxis i s) (H_curve_checkAxis n i) := atN_succ lok_curve_checkAxis i n s
theorem R_curve_checkAxis_eq (i : Nat) (s : St) : R_curve_checkAxis i s = runS Tryz.prog c_curve_checkAxis (H_curve_checkAxis bigL) an_curve_checkAxis 27 (loopAt (bodyOf Tryz.f145) i) s := rfl
noncomputable def F_curve_checkAxis (ds : List D) : Option D := runF Tryz.prog c_curve_checkAxis an_curve_checkAxis 27 (bodyOf Tryz.f145) [.tmp 2] ds
theorem F_curve_checkAxis_eq (ds : List D) : F_curve_checkAxis ds = runG Tryz.prog c_curve_checkAxis (H_curve_checkAxis bigL) an_curve_checkAxis 27 (bodyOf Tryz.f145) [.tmp 2] ds := runG_eq lok_curve_checkAxis _ ds
theorem C_curve_checkAxis (ds : List D) (r : D) (h : F_curve_checkAxis ds = some r) : Contract Tryz.prog gl 145 ds r := contract_of mix Tryz.func145 rfl (by kernel_rfl) (by kernel_rfl) (by decide) (call := c_curve_checkAxis) ⟨callOf_ok cl_curve_checkAxis ⟨C_curve_inRange, trivial⟩, callOfE_ok ce_curve_checkAxis trivial⟩ h
-- sawmill/curve.CheckGrid: loops [14, 19]; state: params 0..0, then [1, 2, 3, 4, 6, 8, 49, 50, 51, 61, 62, 63]
attribute [simp] Tryz.f141
noncomputable def an_curve_CheckGrid : Ann := ⟨[1, 2, 3, 4, 6, 8, 49, 50, 51, 61, 62, 63], [18, 28, 33, 39, 47, 52, 60, 64, 69], [], [(14, [1, 49, 50, 51]), (19, [1, 49, 50, 51, 61, 62, 63])], [(0, []), (1, [1, 49, 50, 51]), (2, [1, 49, 50, 51]), (3, [1, 49, 50, 51, 61, 62, 63])], some [2], [], [], [], []⟩
@[simp] theorem an_curve_CheckGrid_draws : an_curve_CheckGrid.draws = [] := rfl
@[simp] theorem an_curve_CheckGrid_exits : an_curve_CheckGrid.exits = [(0, []), (1, [1, 49, 50, 51]), (2, [1, 49, 50, 51]), (3, [1, 49, 50, 51, 61, 62, 63])] := rfl
@[simp] theorem an_curve_CheckGrid_rets : an_curve_CheckGrid.rets = some [2] := rfl
@[simp] theorem an_curve_CheckGrid_keep : an_curve_CheckGrid.keep = [1, 2, 3, 4, 6, 8, 49, 50, 51, 61, 62, 63] := rfl
@[simp] theorem an_curve_CheckGrid_cond : an_curve_CheckGrid.cond = [18, 28, 33, 39, 47, 52, 60, 64, 69] := rfl
@[simp] theorem an_curve_CheckGrid_rows : an_curve_CheckGrid.rows = [] := rfl
@[simp] theorem an_curve_CheckGrid_loops : an_curve_CheckGrid.loops = [(14, [1, 49, 50, 51]), (19, [1, 49, 50, 51, 61, 62, 63])] := rfl
@[simp] theorem an_curve_CheckGrid_ecalls : an_curve_CheckGrid.ecalls = [] := rfl
@[simp] theorem an_curve_CheckGrid_crows : an_curve_CheckGrid.crows = [] := rfl
@[simp] theorem an_curve_CheckGrid_tails : an_curve_CheckGrid.tails = [] := rfl
@[simp] noncomputable def cl_curve_CheckGrid : List (Nat × (List D → Option D)) := [(145, F_curve_checkAxis), (146, F_curve_inRange)]
@[simp] noncomputable def ce_curve_CheckGrid : List (Nat × (List (Nat × O) → List D → Option (D × List (Nat × O)))) := []
noncomputable def c_curve_CheckGrid : CT := ⟨callOf (cl_curve_CheckGrid ), callOfE ce_curve_CheckGrid, gl⟩
@[simp] theorem c_curve_CheckGrid_p (f : FuncId) (ds : List D) : c_curve_CheckGrid.p f ds = callOf (cl_curve_CheckGrid ) f ds := Eq.trans rfl rfl
@[simp] theorem c_curve_CheckGrid_e (f : FuncId) (hs : List (Nat × O)) (ds : List D) : c_curve_CheckGrid.e f hs ds = callOfE ce_curve_CheckGrid f hs ds := Eq.trans rfl rfl
@[simp] theorem c_curve_CheckGrid_g (g : Nat) : c_curve_CheckGrid.g g = gl g := Eq.trans rfl rfl
noncomputable def L_curve_CheckGrid (i n : Nat) (s : St) : Option (E × St) := atN Tryz.prog c_curve_CheckGrid an_curve_CheckGrid 72 (bodyOf Tryz.f141) i n s
noncomputable def H_curve_CheckGrid (n i : Nat) (s : St) : Option (E × St) := atH Tryz.prog c_curve_CheckGrid an_curve_CheckGrid 72 (bodyOf Tryz.f141) n i s
@[simp] theorem H_curve_CheckGrid_eq (n i : Nat) (s : St) : H_curve_CheckGrid n i s = L_curve_CheckGrid i n (headOf (an_curve_CheckGrid.loops.lookup i) s) := rfl
noncomputable def R_curve_CheckGrid (i : Nat) (s : St) : Option (E × St) := stepL Tryz.prog c_curve_CheckGrid an_curve_CheckGrid 72 (bodyOf Tryz.f141) i s
theorem lok_curve_CheckGrid : okLoops (bodyOf Tryz.f141) = true := by kernel_rfl
theorem L_curve_CheckGrid_zero (i : Nat) (s : St) : L_curve_CheckGrid i 0 s = none := rfl
theorem L_curve_CheckGrid_succ (i n : Nat) (s : St) : L_curve_CheckGrid i (n + 1) s = andThen (R_curve_CheckGrid i s) (H_curve_CheckGrid n i) := atN_succ lok_curve_CheckGrid i n s
theorem R_curve_CheckGrid_eq (i : Nat) (s : St) : R_curve_CheckGrid i s = runS Tryz.prog c_curve_CheckGrid (H_curve_CheckGrid bigL) an_curve_CheckGrid 72 (loopAt (bodyOf Tryz.f141) i) s := rfl
noncomputable def F_curve_CheckGrid (ds : List D) : Option D := runF Tryz.prog c_curve_CheckGrid an_curve_CheckGrid 72 (bodyOf Tryz.f141) [.tmp 2] ds
theorem F_curve_CheckGrid_eq (ds : List D) : F_curve_CheckGrid ds = runG Tryz.prog c_curve_CheckGrid (H_curve_CheckGrid bigL) an_curve_CheckGrid 72 (bodyOf Tryz.f141) [.tmp 2] ds := runG_eq lok_curve_CheckGrid _ ds
theorem C_curve_CheckGrid (ds : List D) (r : D) (h : F_curve_CheckGrid ds = some r) : Contract Tryz.prog gl 141 ds r := contract_of mix Tryz.func141 rfl (by kernel_rfl) (by kernel_rfl) (by decide) (call := c_curve_CheckGrid) ⟨callOf_ok cl_curve_CheckGrid ⟨C_curve_checkAxis, C_curve_inRange, trivial⟩, callOfE_ok ce_curve_CheckGrid trivial⟩ h
-- sawmill/curve.points: loops [3]; state: params 0..1, then [4, 5, 6, 11, 12]
attribute [simp] Tryz.f143
noncomputable def an_curve_points : Ann := ⟨[0, 4, 5, 6, 11, 12], [13], [5], [(3, [0, 1, 5, 11, 12])], [(0, [5]), (1, [0, 1, 5, 11, 12])], some [4], [(5, 11)], [], [], []⟩
@[simp] theorem an_curve_points_draws : an_curve_points.draws = [(5, 11)] := rfl
@[simp] theorem an_curve_points_exits : an_curve_points.exits = [(0, [5]), (1, [0, 1, 5, 11, 12])] := rfl
@[simp] theorem an_curve_points_rets : an_curve_points.rets = some [4] := rfl
@[simp] theorem an_curve_points_keep : an_curve_points.keep = [0, 4, 5, 6, 11, 12] := rfl
@[simp] theorem an_curve_points_cond : an_curve_points.cond = [13] := rfl
@[simp] theorem an_curve_points_rows : an_curve_points.rows = [5] := rfl
@[simp] theorem an_curve_points_loops : an_curve_points.loops = [(3, [0, 1, 5, 11, 12])] := rfl
@[simp] theorem an_curve_points_ecalls : an_curve_points.ecalls = [] := rfl
@[simp] theorem an_curve_points_crows : an_curve_points.crows = [] := rfl
@[simp] theorem an_curve_points_tails : an_curve_points.tails = [] := rfl
@[simp] noncomputable def cl_curve_points : List (Nat × (List D → Option D)) := []
@[simp] noncomputable def ce_curve_points : List (Nat × (List (Nat × O) → List D → Option (D × List (Nat × O)))) := []
noncomputable def c_curve_points : CT := ⟨callOf (cl_curve_points ), callOfE ce_curve_points, gl⟩
@[simp] theorem c_curve_points_p (f : FuncId) (ds : List D) : c_curve_points.p f ds = callOf (cl_curve_points ) f ds := Eq.trans rfl rfl
@[simp] theorem c_curve_points_e (f : FuncId) (hs : List (Nat × O)) (ds : List D) : c_curve_points.e f hs ds = callOfE ce_curve_points f hs ds := Eq.trans rfl rfl
@[simp] theorem c_curve_points_g (g : Nat) : c_curve_points.g g = gl g := Eq.trans rfl rfl
noncomputable def L_curve_points (i n : Nat) (s : St) : Option (E × St) := atN Tryz.prog c_curve_points an_curve_points 29 (bodyOf Tryz.f143) i n s
noncomputable def H_curve_points (n i : Nat) (s : St) : Option (E × St) := atH Tryz.prog c_curve_points an_curve_points 29 (bodyOf Tryz.f143) n i s
@[simp] theorem H_curve_points_eq (n i : Nat) (s : St) : H_curve_points n i s = L_curve_points i n (headOf (an_curve_points.loops.lookup i) s) := rfl
noncomputable def R_curve_points (i : Nat) (s : St) : Option (E × St) := stepL Tryz.prog c_curve_points an_curve_points 29 (bodyOf Tryz.f143) i s
theorem lok_curve_points : okLoops (bodyOf Tryz.f143) = true := by kernel_rfl
theorem L_curve_points_zero (i : Nat) (s : St) : L_curve_points i 0 s = none := rfl
theorem L_curve_points_succ (i n : Nat) (s : St) : L_curve_points i (n + 1) s = andThen (R_curve_points i s) (H_curve_points n i) := atN_succ lok_curve_points i n s
theorem R_curve_points_eq (i : Nat) (s : St) : R_curve_points i s = runS Tryz.prog c_curve_points (H_curve_points bigL) an_curve_points 29 (loopAt (bodyOf Tryz.f143) i) s := rfl
noncomputable def F_curve_points (ds : List D) : Option D := runF Tryz.prog c_curve_points an_curve_points 29 (bodyOf Tryz.f143) [.tmp 4] ds
theorem F_curve_points_eq (ds : List D) : F_curve_points ds = runG Tryz.prog c_curve_points (H_curve_points bigL) an_curve_points 29 (bodyOf Tryz.f143) [.tmp 4] ds := runG_eq lok_curve_points _ ds
theorem C_curve_points (ds : List D) (r : D) (h : F_curve_points ds = some r) : Contract Tryz.prog gl 143 ds r := contract_of mix Tryz.func143 rfl (by kernel_rfl) (by kernel_rfl) (by decide) (call := c_curve_points) ⟨callOf_ok cl_curve_points trivial, callOfE_ok ce_curve_points trivial⟩ h
-- sawmill/curve.Check: loops [6]; state: params 0..0, then [2, 3, 4, 11, 12, 13]
attribute [simp] Tryz.f147
noncomputable def an_curve_Check : Ann := ⟨[0, 2, 3, 4, 11, 12, 13], [7, 10, 14, 27, 40], [], [(6, [0, 11, 12, 13])], [(0, []), (1, [0, 11, 12, 13])], some [2], [(10, 11)], [], [], []⟩
@[simp] theorem an_curve_Check_draws : an_curve_Check.draws = [(10, 11)] := rfl
@[simp] theorem an_curve_Check_exits : an_curve_Check.exits = [(0, []), (1, [0, 11, 12, 13])] := rfl
@[simp] theorem an_curve_Check_rets : an_curve_Check.rets = some [2] := rfl
@[simp] theorem an_curve_Check_keep : an_curve_Check.keep = [0, 2, 3, 4, 11, 12, 13] := rfl
@[simp] theorem an_curve_Check_cond : an_curve_Check.cond = [7, 10, 14, 27, 40] := rfl
@[simp] theorem an_curve_Check_rows : an_curve_Check.rows = [] := rfl
@[simp] theorem an_curve_Check_loops : an_curve_Check.loops = [(6, [0, 11, 12, 13])] := rfl
@[simp] theorem an_curve_Check_ecalls : an_curve_Check.ecalls = [] := rfl
@[simp] theorem an_curve_Check_crows : an_curve_Check.crows = [] := rfl
@[simp] theorem an_curve_Check_tails : an_curve_Check.tails = [] := rfl
@[simp] noncomputable def cl_curve_Check : List (Nat × (List D → Option D)) := [(146, F_curve_inRange)]
@[simp] noncomputable def ce_curve_Check : List (Nat × (List (Nat × O) → List D → Option (D × List (Nat × O)))) := []
noncomputable def c_curve_Check : CT := ⟨callOf (cl_curve_Check ), callOfE ce_curve_Check, gl⟩
@[simp] theorem c_curve_Check_p (f : FuncId) (ds : List D) : c_curve_Check.p f ds = callOf (cl_curve_Check ) f ds := Eq.trans rfl rfl
@[simp] theorem c_curve_Check_e (f : FuncId) (hs : List (Nat × O)) (ds : List D) : c_curve_Check.e f hs ds = callOfE ce_curve_Check f hs ds := Eq.trans rfl rfl
@[simp] theorem c_curve_Check_g (g : Nat) : c_curve_Check.g g = gl g := Eq.trans rfl rfl
noncomputable def L_curve_Check (i n : Nat) (s : St) : Option (E × St) := atN Tryz.prog c_curve_Check an_curve_Check 42 (bodyOf Tryz.f147) i n s
noncomputable def H_curve_Check (n i : Nat) (s : St) : Option (E × St) := atH Tryz.prog c_curve_Check an_curve_Check 42 (bodyOf Tryz.f147) n i s
@[simp] theorem H_curve_Check_eq (n i : Nat) (s : St) : H_curve_Check n i s = L_curve_Check i n (headOf (an_curve_Check.loops.lookup i) s) := rfl
noncomputable def R_curve_Check (i : Nat) (s : St) : Option (E × St) := stepL Tryz.prog c_curve_Check an_curve_Check 42 (bodyOf Tryz.f147) i s
theorem lok_curve_Check : okLoops (bodyOf Tryz.f147) = true := by kernel_rfl
theorem L_curve_Check_zero (i : Nat) (s : St) : L_curve_Check i 0 s = none := rfl
theorem L_curve_Check_succ (i n : Nat) (s : St) : L_curve_Check i (n + 1) s = andThen (R_curve_Check i s) (H_curve_Check n i) := atN_succ lok_curve_Check i n s
theorem R_curve_Check_eq (i : Nat) (s : St) : R_curve_Check i s = runS Tryz.prog c_curve_Check (H_curve_Check bigL) an_curve_Check 42 (loopAt (bodyOf Tryz.f147) i) s := rfl
noncomputable def F_curve_Check (ds : List D) : Option D := runF Tryz.prog c_curve_Check an_curve_Check 42 (bodyOf Tryz.f147) [.tmp 2] ds
theorem F_curve_Check_eq (ds : List D) : F_curve_Check ds = runG Tryz.prog c_curve_Check (H_curve_Check bigL) an_curve_Check 42 (bodyOf Tryz.f147) [.tmp 2] ds := runG_eq lok_curve_Check _ ds
theorem C_curve_Check (ds : List D) (r : D) (h : F_curve_Check ds = some r) : Contract Tryz.prog gl 147 ds r := contract_of mix Tryz.func147 rfl (by kernel_rfl) (by kernel_rfl) (by decide) (call := c_curve_Check) ⟨callOf_ok cl_curve_Check ⟨C_curve_inRange, trivial⟩, callOfE_ok ce_curve_Check trivial⟩ h
-- sawmill/curve.floor: loops []; state: params 0..1, then [4, 5]
attribute [simp] Tryz.f148
noncomputable def an_curve_floor : Ann := ⟨[0, 1, 4, 5], [12], [], [], [], some [4], [], [], [], []⟩
@[simp] theorem an_curve_floor_draws : an_curve_floor.draws = [] := rfl
@[simp] theorem an_curve_floor_exits : an_curve_floor.exits = [] := rfl
@[simp] theorem an_curve_floor_rets : an_curve_floor.rets = some [4] := rfl
@[simp] theorem an_curve_floor_keep : an_curve_floor.keep = [0, 1, 4, 5] := rfl
@[simp] theorem an_curve_floor_cond : an_curve_floor.cond = [12] := rfl
@[simp] theorem an_curve_floor_rows : an_curve_floor.rows = [] := rfl
@[simp] theorem an_curve_floor_loops : an_curve_floor.loops = [] := rfl
@[simp] theorem an_curve_floor_ecalls : an_curve_floor.ecalls = [] := rfl
@[simp] theorem an_curve_floor_crows : an_curve_floor.crows = [] := rfl
@[simp] theorem an_curve_floor_tails : an_curve_floor.tails = [] := rfl
@[simp] noncomputable def cl_curve_floor : List (Nat × (List D → Option D)) := []
@[simp] noncomputable def ce_curve_floor : List (Nat × (List (Nat × O) → List D → Option (D × List (Nat × O)))) := []
noncomputable def c_curve_floor : CT := ⟨callOf (cl_curve_floor ), callOfE ce_curve_floor, gl⟩
@[simp] theorem c_curve_floor_p (f : FuncId) (ds : List D) : c_curve_floor.p f ds = callOf (cl_curve_floor ) f ds := Eq.trans rfl rfl
@[simp] theorem c_curve_floor_e (f : FuncId) (hs : List (Nat × O)) (ds : List D) : c_curve_floor.e f hs ds = callOfE ce_curve_floor f hs ds := Eq.trans rfl rfl
@[simp] theorem c_curve_floor_g (g : Nat) : c_curve_floor.g g = gl g := Eq.trans rfl rfl
noncomputable def L_curve_floor (i n : Nat) (s : St) : Option (E × St) := atN Tryz.prog c_curve_floor an_curve_floor 16 (bodyOf Tryz.f148) i n s
noncomputable def H_curve_floor (n i : Nat) (s : St) : Option (E × St) := atH Tryz.prog c_curve_floor an_curve_floor 16 (bodyOf Tryz.f148) n i s
@[simp] theorem H_curve_floor_eq (n i : Nat) (s : St) : H_curve_floor n i s = L_curve_floor i n (headOf (an_curve_floor.loops.lookup i) s) := rfl
noncomputable def R_curve_floor (i : Nat) (s : St) : Option (E × St) := stepL Tryz.prog c_curve_floor an_curve_floor 16 (bodyOf Tryz.f148) i s
theorem lok_curve_floor : okLoops (bodyOf Tryz.f148) = true := by kernel_rfl
noncomputable def F_curve_floor (ds : List D) : Option D := runF Tryz.prog c_curve_floor an_curve_floor 16 (bodyOf Tryz.f148) [.tmp 4] ds
theorem F_curve_floor_eq (ds : List D) : F_curve_floor ds = runG Tryz.prog c_curve_floor (H_curve_floor bigL) an_curve_floor 16 (bodyOf Tryz.f148) [.tmp 4] ds := runG_eq lok_curve_floor _ ds
theorem C_curve_floor (ds : List D) (r : D) (h : F_curve_floor ds = some r) : Contract Tryz.prog gl 148 ds r := contract_of mix Tryz.func148 rfl (by kernel_rfl) (by kernel_rfl) (by decide) (call := c_curve_floor) ⟨callOf_ok cl_curve_floor trivial, callOfE_ok ce_curve_floor trivial⟩ h
-- sawmill/curve.At: loops [6]; state: params 0..1, then [4, 5, 6, 7]
attribute [simp] Tryz.f142
noncomputable def an_curve_At : Ann := ⟨[0, 1, 4, 5, 6, 7], [10, 16, 24, 33], [], [(6, [0, 1, 5])], [(0, [0]), (1, [0, 1, 5])], some [4], [(9, 12), (10, 18)], [], [], []⟩
@[simp] theorem an_curve_At_draws : an_curve_At.draws = [(9, 12), (10, 18)] := rfl
@[simp] theorem an_curve_At_exits : an_curve_At.exits = [(0, [0]), (1, [0, 1, 5])] := rfl
@[simp] theorem an_curve_At_rets : an_curve_At.rets = some [4] := rfl
@[simp] theorem an_curve_At_keep : an_curve_At.keep = [0, 1, 4, 5, 6, 7] := rfl
@[simp] theorem an_curve_At_cond : an_curve_At.cond = [10, 16, 24, 33] := rfl
@[simp] theorem an_curve_At_rows : an_curve_At.rows = [] := rfl
@[simp] theorem an_curve_At_loops : an_curve_At.loops = [(6, [0, 1, 5])] := rfl
@[simp] theorem an_curve_At_ecalls : an_curve_At.ecalls = [] := rfl
@[simp] theorem an_curve_At_crows : an_curve_At.crows = [] := rfl
@[simp] theorem an_curve_At_tails : an_curve_At.tails = [] := rfl
@[simp] noncomputable def cl_curve_At : List (Nat × (List D → Option D)) := [(147, F_curve_Check), (148, F_curve_floor)]
@[simp] noncomputable def ce_curve_At : List (Nat × (List (Nat × O) → List D → Option (D × List (Nat × O)))) := []
noncomputable def c_curve_At : CT := ⟨callOf (cl_curve_At ), callOfE ce_curve_At, gl⟩
@[simp] theorem c_curve_At_p (f : FuncId) (ds : List D) : c_curve_At.p f ds = callOf (cl_curve_At ) f ds := Eq.trans rfl rfl
@[simp] theorem c_curve_At_e (f : FuncId) (hs : List (Nat × O)) (ds : List D) : c_curve_At.e f hs ds = callOfE ce_curve_At f hs ds := Eq.trans rfl rfl
@[simp] theorem c_curve_At_g (g : Nat) : c_curve_At.g g = gl g := Eq.trans rfl rfl
noncomputable def L_curve_At (i n : Nat) (s : St) : Option (E × St) := atN Tryz.prog c_curve_At an_curve_At 69 (bodyOf Tryz.f142) i n s
noncomputable def H_curve_At (n i : Nat) (s : St) : Option (E × St) := atH Tryz.prog c_curve_At an_curve_At 69 (bodyOf Tryz.f142) n i s
@[simp] theorem H_curve_At_eq (n i : Nat) (s : St) : H_curve_At n i s = L_curve_At i n (headOf (an_curve_At.loops.lookup i) s) := rfl
noncomputable def R_curve_At (i : Nat) (s : St) : Option (E × St) := stepL Tryz.prog c_curve_At an_curve_At 69 (bodyOf Tryz.f142) i s
theorem lok_curve_At : okLoops (bodyOf Tryz.f142) = true := by kernel_rfl
theorem L_curve_At_zero (i : Nat) (s : St) : L_curve_At i 0 s = none := rfl
theorem L_curve_At_succ (i n : Nat) (s : St) : L_curve_At i (n + 1) s = andThen (R_curve_At i s) (H_curve_At n i) := atN_succ lok_curve_At i n s
theorem R_curve_At_eq (i : Nat) (s : St) : R_curve_At i s = runS Tryz.prog c_curve_At (H_curve_At bigL) an_curve_At 69 (loopAt (bodyOf Tryz.f142) i) s := rfl
noncomputable def F_curve_At (ds : List D) : Option D := runF Tryz.prog c_curve_At an_curve_At 69 (bodyOf Tryz.f142) [.tmp 4] ds
theorem F_curve_At_eq (ds : List D) : F_curve_At ds = runG Tryz.prog c_curve_At (H_curve_At bigL) an_curve_At 69 (bodyOf Tryz.f142) [.tmp 4] ds := runG_eq lok_curve_At _ ds
theorem C_curve_At (ds : List D) (r : D) (h : F_curve_At ds = some r) : Contract Tryz.prog gl 142 ds r := contract_of mix Tryz.func142 rfl (by kernel_rfl) (by kernel_rfl) (by decide) (call := c_curve_At) ⟨callOf_ok cl_curve_At ⟨C_curve_Check, C_curve_floor, trivial⟩, callOfE_ok ce_curve_At trivial⟩ h
-- sawmill/curve.Value: loops [5]; state: params 0..2, then [3, 6, 7, 8, 9, 14, 15, 16]
attribute [simp] Tryz.f134
noncomputable def an_curve_Value : Ann := ⟨[3, 6, 7, 8, 9, 14, 15, 16], [12, 17], [], [(5, [1, 2, 3, 7, 14, 15, 16])], [(0, [1, 3, 7]), (1, [1, 2, 3, 7, 14, 15, 16])], some [6], [(9, 5)], [], [], []⟩
@[simp] theorem an_curve_Value_draws : an_curve_Value.draws = [(9, 5)] := rfl
@[simp] theorem an_curve_Value_exits : an_curve_Value.exits = [(0, [1, 3, 7]), (1, [1, 2, 3, 7, 14, 15, 16])] := rfl
@[simp] theorem an_curve_Value_rets : an_curve_Value.rets = some [6] := rfl
@[simp] theorem an_curve_Value_keep : an_curve_Value.keep = [3, 6, 7, 8, 9, 14, 15, 16] := rfl
@[simp] theorem an_curve_Value_cond : an_curve_Value.cond = [12, 17] := rfl
@[simp] theorem an_curve_Value_rows : an_curve_Value.rows = [] := rfl
@[simp] theorem an_curve_Value_loops : an_curve_Value.loops = [(5, [1, 2, 3, 7, 14, 15, 16])] := rfl
@[simp] theorem an_curve_Value_ecalls : an_curve_Value.ecalls = [] := rfl
@[simp] theorem an_curve_Value_crows : an_curve_Value.crows = [] := rfl
@[simp] theorem an_curve_Value_tails : an_curve_Value.tails = [] := rfl
@[simp] noncomputable def cl_curve_Value : List (Nat × (List D → Option D)) := [(141, F_curve_CheckGrid), (142, F_curve_At), (143, F_curve_points)]
@[simp] noncomputable def ce_curve_Value : List (Nat × (List (Nat × O) → List D → Option (D × List (Nat × O)))) := []
noncomputable def c_curve_Value : CT := ⟨callOf (cl_curve_Value ), callOfE ce_curve_Value, gl⟩
@[simp] theorem c_curve_Value_p (f : FuncId) (ds : List D) : c_curve_Value.p f ds = callOf (cl_curve_Value ) f ds := Eq.trans rfl rfl
@[simp] theorem c_curve_Value_e (f : FuncId) (hs : List (Nat × O)) (ds : List D) : c_curve_Value.e f hs ds = callOfE ce_curve_Value f hs ds := Eq.trans rfl rfl
@[simp] theorem c_curve_Value_g (g : Nat) : c_curve_Value.g g = gl g := Eq.trans rfl rfl
noncomputable def L_curve_Value (i n : Nat) (s : St) : Option (E × St) := atN Tryz.prog c_curve_Value an_curve_Value 36 (bodyOf Tryz.f134) i n s
noncomputable def H_curve_Value (n i : Nat) (s : St) : Option (E × St) := atH Tryz.prog c_curve_Value an_curve_Value 36 (bodyOf Tryz.f134) n i s
@[simp] theorem H_curve_Value_eq (n i : Nat) (s : St) : H_curve_Value n i s = L_curve_Value i n (headOf (an_curve_Value.loops.lookup i) s) := rfl
noncomputable def R_curve_Value (i : Nat) (s : St) : Option (E × St) := stepL Tryz.prog c_curve_Value an_curve_Value 36 (bodyOf Tryz.f134) i s
theorem lok_curve_Value : okLoops (bodyOf Tryz.f134) = true := by kernel_rfl
theorem L_curve_Value_zero (i : Nat) (s : St) : L_curve_Value i 0 s = none := rfl
theorem L_curve_Value_succ (i n : Nat) (s : St) : L_curve_Value i (n + 1) s = andThen (R_curve_Value i s) (H_curve_Value n i) := atN_succ lok_curve_Value i n s
theorem R_curve_Value_eq (i : Nat) (s : St) : R_curve_Value i s = runS Tryz.prog c_curve_Value (H_curve_Value bigL) an_curve_Value 36 (loopAt (bodyOf Tryz.f134) i) s := rfl
noncomputable def F_curve_Value (ds : List D) : Option D := runF Tryz.prog c_curve_Value an_curve_Value 36 (bodyOf Tryz.f134) [.tmp 6] ds
theorem F_curve_Value_eq (ds : List D) : F_curve_Value ds = runG Tryz.prog c_curve_Value (H_curve_Value bigL) an_curve_Value 36 (bodyOf Tryz.f134) [.tmp 6] ds := runG_eq lok_curve_Value _ ds
theorem C_curve_Value (ds : List D) (r : D) (h : F_curve_Value ds = some r) : Contract Tryz.prog gl 134 ds r := contract_of mix Tryz.func134 rfl (by kernel_rfl) (by kernel_rfl) (by decide) (call := c_curve_Value) ⟨callOf_ok cl_curve_Value ⟨C_curve_CheckGrid, C_curve_At, C_curve_points, trivial⟩, callOfE_ok ce_curve_Value trivial⟩ h
-- sawmill/air.Emc: loops []; state: params 0..0, then [1, 2]
attribute [simp] Tryz.f126
noncomputable def an_air_Emc : Ann := ⟨[1, 2], [], [], [], [], some [2], [(1, 5)], [], [], []⟩
@[simp] theorem an_air_Emc_draws : an_air_Emc.draws = [(1, 5)] := rfl
@[simp] theorem an_air_Emc_exits : an_air_Emc.exits = [] := rfl
@[simp] theorem an_air_Emc_rets : an_air_Emc.rets = some [2] := rfl
@[simp] theorem an_air_Emc_keep : an_air_Emc.keep = [1, 2] := rfl
@[simp] theorem an_air_Emc_cond : an_air_Emc.cond = [] := rfl
@[simp] theorem an_air_Emc_rows : an_air_Emc.rows = [] := rfl
@[simp] theorem an_air_Emc_loops : an_air_Emc.loops = [] := rfl
@[simp] theorem an_air_Emc_ecalls : an_air_Emc.ecalls = [] := rfl
@[simp] theorem an_air_Emc_crows : an_air_Emc.crows = [] := rfl
@[simp] theorem an_air_Emc_tails : an_air_Emc.tails = [] := rfl
@[simp] noncomputable def cl_air_Emc : List (Nat × (List D → Option D)) := [(134, F_curve_Value), (135, F_air_Table)]
@[simp] noncomputable def ce_air_Emc : List (Nat × (List (Nat × O) → List D → Option (D × List (Nat × O)))) := []
noncomputable def c_air_Emc : CT := ⟨callOf (cl_air_Emc ), callOfE ce_air_Emc, gl⟩
@[simp] theorem c_air_Emc_p (f : FuncId) (ds : List D) : c_air_Emc.p f ds = callOf (cl_air_Emc ) f ds := Eq.trans rfl rfl
@[simp] theorem c_air_Emc_e (f : FuncId) (hs : List (Nat × O)) (ds : List D) : c_air_Emc.e f hs ds = callOfE ce_air_Emc f hs ds := Eq.trans rfl rfl
@[simp] theorem c_air_Emc_g (g : Nat) : c_air_Emc.g g = gl g := Eq.trans rfl rfl
noncomputable def L_air_Emc (i n : Nat) (s : St) : Option (E × St) := atN Tryz.prog c_air_Emc an_air_Emc 9 (bodyOf Tryz.f126) i n s
noncomputable def H_air_Emc (n i : Nat) (s : St) : Option (E × St) := atH Tryz.prog c_air_Emc an_air_Emc 9 (bodyOf Tryz.f126) n i s
@[simp] theorem H_air_Emc_eq (n i : Nat) (s : St) : H_air_Emc n i s = L_air_Emc i n (headOf (an_air_Emc.loops.lookup i) s) := rfl
noncomputable def R_air_Emc (i : Nat) (s : St) : Option (E × St) := stepL Tryz.prog c_air_Emc an_air_Emc 9 (bodyOf Tryz.f126) i s
theorem lok_air_Emc : okLoops (bodyOf Tryz.f126) = true := by kernel_rfl
noncomputable def F_air_Emc (ds : List D) : Option D := runF Tryz.prog c_air_Emc an_air_Emc 9 (bodyOf Tryz.f126) [.tmp 2] ds
theorem F_air_Emc_eq (ds : List D) : F_air_Emc ds = runG Tryz.prog c_air_Emc (H_air_Emc bigL) an_air_Emc 9 (bodyOf Tryz.f126) [.tmp 2] ds := runG_eq lok_air_Emc _ ds
theorem C_air_Emc (ds : List D) (r : D) (h : F_air_Emc ds = some r) : Contract Tryz.prog gl 126 ds r := contract_of mix Tryz.func126 rfl (by kernel_rfl) (by kernel_rfl) (by decide) (call := c_air_Emc) ⟨callOf_ok cl_air_Emc ⟨C_curve_Value, C_air_Table, trivial⟩, callOfE_ok ce_air_Emc trivial⟩ h
-- math/bits.Mul64: loops []; state: params 0..1, then [4, 5, 6, 7, 8, 9, 10, 11, 12, 13]
attribute [simp] Tryz.f132
noncomputable def an_math_bits_Mul64 : Ann := ⟨[0, 1, 4, 5, 6, 7, 8, 9, 10, 11, 12, 13], [], [], [], [], some [4, 5], [], [], [], []⟩
@[simp] theorem an_math_bits_Mul64_draws : an_math_bits_Mul64.draws = [] := rfl
@[simp] theorem an_math_bits_Mul64_exits : an_math_bits_Mul64.exits = [] := rfl
@[simp] theorem an_math_bits_Mul64_rets : an_math_bits_Mul64.rets = some [4, 5] := rfl
@[simp] theorem an_math_bits_Mul64_keep : an_math_bits_Mul64.keep = [0, 1, 4, 5, 6, 7, 8, 9, 10, 11, 12, 13] := rfl
@[simp] theorem an_math_bits_Mul64_cond : an_math_bits_Mul64.cond = [] := rfl
@[simp] theorem an_math_bits_Mul64_rows : an_math_bits_Mul64.rows = [] := rfl
@[simp] theorem an_math_bits_Mul64_loops : an_math_bits_Mul64.loops = [] := rfl
@[simp] theorem an_math_bits_Mul64_ecalls : an_math_bits_Mul64.ecalls = [] := rfl
@[simp] theorem an_math_bits_Mul64_crows : an_math_bits_Mul64.crows = [] := rfl
@[simp] theorem an_math_bits_Mul64_tails : an_math_bits_Mul64.tails = [] := rfl
@[simp] noncomputable def cl_math_bits_Mul64 : List (Nat × (List D → Option D)) := []
@[simp] noncomputable def ce_math_bits_Mul64 : List (Nat × (List (Nat × O) → List D → Option (D × List (Nat × O)))) := []
noncomputable def c_math_bits_Mul64 : CT := ⟨callOf (cl_math_bits_Mul64 ), callOfE ce_math_bits_Mul64, gl⟩
@[simp] theorem c_math_bits_Mul64_p (f : FuncId) (ds : List D) : c_math_bits_Mul64.p f ds = callOf (cl_math_bits_Mul64 ) f ds := Eq.trans rfl rfl
@[simp] theorem c_math_bits_Mul64_e (f : FuncId) (hs : List (Nat × O)) (ds : List D) : c_math_bits_Mul64.e f hs ds = callOfE ce_math_bits_Mul64 f hs ds := Eq.trans rfl rfl
@[simp] theorem c_math_bits_Mul64_g (g : Nat) : c_math_bits_Mul64.g g = gl g := Eq.trans rfl rfl
noncomputable def L_math_bits_Mul64 (i n : Nat) (s : St) : Option (E × St) := atN Tryz.prog c_math_bits_Mul64 an_math_bits_Mul64 51 (bodyOf Tryz.f132) i n s
noncomputable def H_math_bits_Mul64 (n i : Nat) (s : St) : Option (E × St) := atH Tryz.prog c_math_bits_Mul64 an_math_bits_Mul64 51 (bodyOf Tryz.f132) n i s
@[simp] theorem H_math_bits_Mul64_eq (n i : Nat) (s : St) : H_math_bits_Mul64 n i s = L_math_bits_Mul64 i n (headOf (an_math_bits_Mul64.loops.lookup i) s) := rfl
noncomputable def R_math_bits_Mul64 (i : Nat) (s : St) : Option (E × St) := stepL Tryz.prog c_math_bits_Mul64 an_math_bits_Mul64 51 (bodyOf Tryz.f132) i s
theorem lok_math_bits_Mul64 : okLoops (bodyOf Tryz.f132) = true := by kernel_rfl
noncomputable def F_math_bits_Mul64 (ds : List D) : Option D := runF Tryz.prog c_math_bits_Mul64 an_math_bits_Mul64 51 (bodyOf Tryz.f132) [.tmp 4, .tmp 5] ds
theorem F_math_bits_Mul64_eq (ds : List D) : F_math_bits_Mul64 ds = runG Tryz.prog c_math_bits_Mul64 (H_math_bits_Mul64 bigL) an_math_bits_Mul64 51 (bodyOf Tryz.f132) [.tmp 4, .tmp 5] ds := runG_eq lok_math_bits_Mul64 _ ds
theorem C_math_bits_Mul64 (ds : List D) (r : D) (h : F_math_bits_Mul64 ds = some r) : Contract Tryz.prog gl 132 ds r := contract_of mix Tryz.func132 rfl (by kernel_rfl) (by kernel_rfl) (by decide) (call := c_math_bits_Mul64) ⟨callOf_ok cl_math_bits_Mul64 trivial, callOfE_ok ce_math_bits_Mul64 trivial⟩ h
-- math/bits.Len64: loops []; state: params 0..0, then [2]
attribute [simp] Tryz.f94
noncomputable def an_math_bits_Len64 : Ann := ⟨[0, 2], [4, 8, 14], [], [], [], some [2], [], [], [], []⟩
@[simp] theorem an_math_bits_Len64_draws : an_math_bits_Len64.draws = [] := rfl
@[simp] theorem an_math_bits_Len64_exits : an_math_bits_Len64.exits = [] := rfl
@[simp] theorem an_math_bits_Len64_rets : an_math_bits_Len64.rets = some [2] := rfl
@[simp] theorem an_math_bits_Len64_keep : an_math_bits_Len64.keep = [0, 2] := rfl
@[simp] theorem an_math_bits_Len64_cond : an_math_bits_Len64.cond = [4, 8, 14] := rfl
@[simp] theorem an_math_bits_Len64_rows : an_math_bits_Len64.rows = [] := rfl
@[simp] theorem an_math_bits_Len64_loops : an_math_bits_Len64.loops = [] := rfl
@[simp] theorem an_math_bits_Len64_ecalls : an_math_bits_Len64.ecalls = [] := rfl
@[simp] theorem an_math_bits_Len64_crows : an_math_bits_Len64.crows = [] := rfl
@[simp] theorem an_math_bits_Len64_tails : an_math_bits_Len64.tails = [] := rfl
@[simp] noncomputable def cl_math_bits_Len64 : List (Nat × (List D → Option D)) := []
@[simp] noncomputable def ce_math_bits_Len64 : List (Nat × (List (Nat × O) → List D → Option (D × List (Nat × O)))) := []
noncomputable def c_math_bits_Len64 : CT := ⟨callOf (cl_math_bits_Len64 ), callOfE ce_math_bits_Len64, gl⟩
@[simp] theorem c_math_bits_Len64_p (f : FuncId) (ds : List D) : c_math_bits_Len64.p f ds = callOf (cl_math_bits_Len64 ) f ds := Eq.trans rfl rfl
@[simp] theorem c_math_bits_Len64_e (f : FuncId) (hs : List (Nat × O)) (ds : List D) : c_math_bits_Len64.e f hs ds = callOfE ce_math_bits_Len64 f hs ds := Eq.trans rfl rfl
@[simp] theorem c_math_bits_Len64_g (g : Nat) : c_math_bits_Len64.g g = gl g := Eq.trans rfl rfl
noncomputable def L_math_bits_Len64 (i n : Nat) (s : St) : Option (E × St) := atN Tryz.prog c_math_bits_Len64 an_math_bits_Len64 25 (bodyOf Tryz.f94) i n s
noncomputable def H_math_bits_Len64 (n i : Nat) (s : St) : Option (E × St) := atH Tryz.prog c_math_bits_Len64 an_math_bits_Len64 25 (bodyOf Tryz.f94) n i s
@[simp] theorem H_math_bits_Len64_eq (n i : Nat) (s : St) : H_math_bits_Len64 n i s = L_math_bits_Len64 i n (headOf (an_math_bits_Len64.loops.lookup i) s) := rfl
noncomputable def R_math_bits_Len64 (i : Nat) (s : St) : Option (E × St) := stepL Tryz.prog c_math_bits_Len64 an_math_bits_Len64 25 (bodyOf Tryz.f94) i s
theorem lok_math_bits_Len64 : okLoops (bodyOf Tryz.f94) = true := by kernel_rfl
noncomputable def F_math_bits_Len64 (ds : List D) : Option D := runF Tryz.prog c_math_bits_Len64 an_math_bits_Len64 25 (bodyOf Tryz.f94) [.tmp 2] ds
theorem F_math_bits_Len64_eq (ds : List D) : F_math_bits_Len64 ds = runG Tryz.prog c_math_bits_Len64 (H_math_bits_Len64 bigL) an_math_bits_Len64 25 (bodyOf Tryz.f94) [.tmp 2] ds := runG_eq lok_math_bits_Len64 _ ds
theorem C_math_bits_Len64 (ds : List D) (r : D) (h : F_math_bits_Len64 ds = some r) : Contract Tryz.prog gl 94 ds r := contract_of mix Tryz.func94 rfl (by kernel_rfl) (by kernel_rfl) (by decide) (call := c_math_bits_Len64) ⟨callOf_ok cl_math_bits_Len64 trivial, callOfE_ok ce_math_bits_Len64 trivial⟩ h
-- math/bits.LeadingZeros64: loops []; state: params 0..0, then [2]
attribute [simp] Tryz.f140
noncomputable def an_math_bits_LeadingZeros64 : Ann := ⟨[2], [], [], [], [], some [2], [], [], [], []⟩
@[simp] theorem an_math_bits_LeadingZeros64_draws : an_math_bits_LeadingZeros64.draws = [] := rfl
@[simp] theorem an_math_bits_LeadingZeros64_exits : an_math_bits_LeadingZeros64.exits = [] := rfl
@[simp] theorem an_math_bits_LeadingZeros64_rets : an_math_bits_LeadingZeros64.rets = some [2] := rfl
@[simp] theorem an_math_bits_LeadingZeros64_keep : an_math_bits_LeadingZeros64.keep = [2] := rfl
@[simp] theorem an_math_bits_LeadingZeros64_cond : an_math_bits_LeadingZeros64.cond = [] := rfl
@[simp] theorem an_math_bits_LeadingZeros64_rows : an_math_bits_LeadingZeros64.rows = [] := rfl
@[simp] theorem an_math_bits_LeadingZeros64_loops : an_math_bits_LeadingZeros64.loops = [] := rfl
@[simp] theorem an_math_bits_LeadingZeros64_ecalls : an_math_bits_LeadingZeros64.ecalls = [] := rfl
@[simp] theorem an_math_bits_LeadingZeros64_crows : an_math_bits_LeadingZeros64.crows = [] := rfl
@[simp] theorem an_math_bits_LeadingZeros64_tails : an_math_bits_LeadingZeros64.tails = [] := rfl
@[simp] noncomputable def cl_math_bits_LeadingZeros64 : List (Nat × (List D → Option D)) := [(94, F_math_bits_Len64)]
@[simp] noncomputable def ce_math_bits_LeadingZeros64 : List (Nat × (List (Nat × O) → List D → Option (D × List (Nat × O)))) := []
noncomputable def c_math_bits_LeadingZeros64 : CT := ⟨callOf (cl_math_bits_LeadingZeros64 ), callOfE ce_math_bits_LeadingZeros64, gl⟩
@[simp] theorem c_math_bits_LeadingZeros64_p (f : FuncId) (ds : List D) : c_math_bits_LeadingZeros64.p f ds = callOf (cl_math_bits_LeadingZeros64 ) f ds := Eq.trans rfl rfl
@[simp] theorem c_math_bits_LeadingZeros64_e (f : FuncId) (hs : List (Nat × O)) (ds : List D) : c_math_bits_LeadingZeros64.e f hs ds = callOfE ce_math_bits_LeadingZeros64 f hs ds := Eq.trans rfl rfl
@[simp] theorem c_math_bits_LeadingZeros64_g (g : Nat) : c_math_bits_LeadingZeros64.g g = gl g := Eq.trans rfl rfl
noncomputable def L_math_bits_LeadingZeros64 (i n : Nat) (s : St) : Option (E × St) := atN Tryz.prog c_math_bits_LeadingZeros64 an_math_bits_LeadingZeros64 6 (bodyOf Tryz.f140) i n s
noncomputable def H_math_bits_LeadingZeros64 (n i : Nat) (s : St) : Option (E × St) := atH Tryz.prog c_math_bits_LeadingZeros64 an_math_bits_LeadingZeros64 6 (bodyOf Tryz.f140) n i s
@[simp] theorem H_math_bits_LeadingZeros64_eq (n i : Nat) (s : St) : H_math_bits_LeadingZeros64 n i s = L_math_bits_LeadingZeros64 i n (headOf (an_math_bits_LeadingZeros64.loops.lookup i) s) := rfl
noncomputable def R_math_bits_LeadingZeros64 (i : Nat) (s : St) : Option (E × St) := stepL Tryz.prog c_math_bits_LeadingZeros64 an_math_bits_LeadingZeros64 6 (bodyOf Tryz.f140) i s
theorem lok_math_bits_LeadingZeros64 : okLoops (bodyOf Tryz.f140) = true := by kernel_rfl
noncomputable def F_math_bits_LeadingZeros64 (ds : List D) : Option D := runF Tryz.prog c_math_bits_LeadingZeros64 an_math_bits_LeadingZeros64 6 (bodyOf Tryz.f140) [.tmp 2] ds
theorem F_math_bits_LeadingZeros64_eq (ds : List D) : F_math_bits_LeadingZeros64 ds = runG Tryz.prog c_math_bits_LeadingZeros64 (H_math_bits_LeadingZeros64 bigL) an_math_bits_LeadingZeros64 6 (bodyOf Tryz.f140) [.tmp 2] ds := runG_eq lok_math_bits_LeadingZeros64 _ ds
theorem C_math_bits_LeadingZeros64 (ds : List D) (r : D) (h : F_math_bits_LeadingZeros64 ds = some r) : Contract Tryz.prog gl 140 ds r := contract_of mix Tryz.func140 rfl (by kernel_rfl) (by kernel_rfl) (by decide) (call := c_math_bits_LeadingZeros64) ⟨callOf_ok cl_math_bits_LeadingZeros64 ⟨C_math_bits_Len64, trivial⟩, callOfE_ok ce_math_bits_LeadingZeros64 trivial⟩ h
-- math/bits.Div64: loops [17, 24]; state: params 0..2, then [6, 7, 8, 9, 10, 11, 12, 13, 14, 15, 16, 17, 18]
attribute [simp] Tryz.f133
noncomputable def an_math_bits_Div64 : Ann := ⟨[0, 1, 2, 6, 7, 8, 9, 10, 11, 12, 13, 14, 15, 16, 17, 18], [20, 24, 27, 78, 85, 113, 120], [], [(17, [2, 8, 9, 10, 11, 13, 14, 15, 16]), (24, [2, 8, 9, 10, 14, 15, 16, 17, 18])], [(0, [2, 8, 9, 10, 11, 13, 14, 15]), (1, [2, 8, 9, 10, 11, 13, 14, 15, 16]), (2, [2, 8, 14, 15, 17, 18]), (3, [2, 8, 9, 10, 14, 15, 16, 17, 18])], some [6, 7], [(6, 7)], [], [], []⟩
@[simp] theorem an_math_bits_Div64_draws : an_math_bits_Div64.draws = [(6, 7)] := rfl
@[simp] theorem an_math_bits_Div64_exits : an_math_bits_Div64.exits = [(0, [2, 8, 9, 10, 11, 13, 14, 15]), (1, [2, 8, 9, 10, 11, 13, 14, 15, 16]), (2, [2, 8, 14, 15, 17, 18]), (3, [2, 8, 9, 10, 14, 15, 16, 17, 18])] := rfl
@[simp] theorem an_math_bits_Div64_rets : an_math_bits_Div64.rets = some [6, 7] := rfl
@[simp] theorem an_math_bits_Div64_keep : an_math_bits_Div64.keep = [0, 1, 2, 6, 7, 8, 9, 10, 11, 12, 13, 14, 15, 16, 17, 18] := rfl
@[simp] theorem an_math_bits_Div64_cond : an_math_bits_Div64.cond = [20, 24, 27, 78, 85, 113, 120] := rfl
@[simp] theorem an_math_bits_Div64_rows : an_math_bits_Div64.rows = [] := rfl
@[simp] theorem an_math_bits_Div64_loops : an_math_bits_Div64.loops = [(17, [2, 8, 9, 10, 11, 13, 14, 15, 16]), (24, [2, 8, 9, 10, 14, 15, 16, 17, 18])] := rfl
@[simp] theorem an_math_bits_Div64_ecalls : an_math_bits_Div64.ecalls = [] := rfl
@[simp] theorem an_math_bits_Div64_crows : an_math_bits_Div64.crows = [] := rfl
@[simp] theorem an_math_bits_Div64_tails : an_math_bits_Div64.tails = [] := rfl
@[simp] noncomputable def cl_math_bits_Div64 : List (Nat × (List D → Option D)) := [(140, F_math_bits_LeadingZeros64)]
@[simp] noncomputable def ce_math_bits_Div64 : List (Nat × (List (Nat × O) → List D → Option (D × List (Nat × O)))) := []
noncomputable def c_math_bits_Div64 : CT := ⟨callOf (cl_math_bits_Div64 ), callOfE ce_math_bits_Div64, gl⟩
@[simp] theorem c_math_bits_Div64_p (f : FuncId) (ds : List D) : c_math_bits_Div64.p f ds = callOf (cl_math_bits_Div64 ) f ds := Eq.trans rfl rfl
@[simp] theorem c_math_bits_Div64_e (f : FuncId) (hs : List (Nat × O)) (ds : List D) : c_math_bits_Div64.e f hs ds = callOfE ce_math_bits_Div64 f hs ds := Eq.trans rfl rfl
@[simp] theorem c_math_bits_Div64_g (g : Nat) : c_math_bits_Div64.g g = gl g := Eq.trans rfl rfl
noncomputable def L_math_bits_Div64 (i n : Nat) (s : St) : Option (E × St) := atN Tryz.prog c_math_bits_Div64 an_math_bits_Div64 135 (bodyOf Tryz.f133) i n s
noncomputable def H_math_bits_Div64 (n i : Nat) (s : St) : Option (E × St) := atH Tryz.prog c_math_bits_Div64 an_math_bits_Div64 135 (bodyOf Tryz.f133) n i s
@[simp] theorem H_math_bits_Div64_eq (n i : Nat) (s : St) : H_math_bits_Div64 n i s = L_math_bits_Div64 i n (headOf (an_math_bits_Div64.loops.lookup i) s) := rfl
noncomputable def R_math_bits_Div64 (i : Nat) (s : St) : Option (E × St) := stepL Tryz.prog c_math_bits_Div64 an_math_bits_Div64 135 (bodyOf Tryz.f133) i s
theorem lok_math_bits_Div64 : okLoops (bodyOf Tryz.f133) = true := by kernel_rfl
theorem L_math_bits_Div64_zero (i : Nat) (s : St) : L_math_bits_Div64 i 0 s = none := rfl
theorem L_math_bits_Div64_succ (i n : Nat) (s : St) : L_math_bits_Div64 i (n + 1) s = andThen (R_math_bits_Div64 i s) (H_math_bits_Div64 n i) := atN_succ lok_math_bits_Div64 i n s
theorem R_math_bits_Div64_eq (i : Nat) (s : St) : R_math_bits_Div64 i s = runS Tryz.prog c_math_bits_Div64 (H_math_bits_Div64 bigL) an_math_bits_Div64 135 (loopAt (bodyOf Tryz.f133) i) s := rfl
noncomputable def F_math_bits_Div64 (ds : List D) : Option D := runF Tryz.prog c_math_bits_Div64 an_math_bits_Div64 135 (bodyOf Tryz.f133) [.tmp 6, .tmp 7] ds
theorem F_math_bits_Div64_eq (ds : List D) : F_math_bits_Div64 ds = runG Tryz.prog c_math_bits_Div64 (H_math_bits_Div64 bigL) an_math_bits_Div64 135 (bodyOf Tryz.f133) [.tmp 6, .tmp 7] ds := runG_eq lok_math_bits_Div64 _ ds
theorem C_math_bits_Div64 (ds : List D) (r : D) (h : F_math_bits_Div64 ds = some r) : Contract Tryz.prog gl 133 ds r := contract_of mix Tryz.func133 rfl (by kernel_rfl) (by kernel_rfl) (by decide) (call := c_math_bits_Div64) ⟨callOf_ok cl_math_bits_Div64 ⟨C_math_bits_LeadingZeros64, trivial⟩, callOfE_ok ce_math_bits_Div64 trivial⟩ h
-- sawmill/units.Toward: loops []; state: params 0..2, then [6, 7, 8, 9, 10]
attribute [simp] Tryz.f125
noncomputable def an_units_Toward : Ann := ⟨[0, 1, 2, 6, 7, 8, 9, 10], [20, 29, 52], [], [], [], some [6], [], [], [], []⟩
@[simp] theorem an_units_Toward_draws : an_units_Toward.draws = [] := rfl
@[simp] theorem an_units_Toward_exits : an_units_Toward.exits = [] := rfl
@[simp] theorem an_units_Toward_rets : an_units_Toward.rets = some [6] := rfl
@[simp] theorem an_units_Toward_keep : an_units_Toward.keep = [0, 1, 2, 6, 7, 8, 9, 10] := rfl
@[simp] theorem an_units_Toward_cond : an_units_Toward.cond = [20, 29, 52] := rfl
@[simp] theorem an_units_Toward_rows : an_units_Toward.rows = [] := rfl
@[simp] theorem an_units_Toward_loops : an_units_Toward.loops = [] := rfl
@[simp] theorem an_units_Toward_ecalls : an_units_Toward.ecalls = [] := rfl
@[simp] theorem an_units_Toward_crows : an_units_Toward.crows = [] := rfl
@[simp] theorem an_units_Toward_tails : an_units_Toward.tails = [] := rfl
@[simp] noncomputable def cl_units_Toward : List (Nat × (List D → Option D)) := [(115, F_units_Clamp), (132, F_math_bits_Mul64), (133, F_math_bits_Div64)]
@[simp] noncomputable def ce_units_Toward : List (Nat × (List (Nat × O) → List D → Option (D × List (Nat × O)))) := []
noncomputable def c_units_Toward : CT := ⟨callOf (cl_units_Toward ), callOfE ce_units_Toward, gl⟩
@[simp] theorem c_units_Toward_p (f : FuncId) (ds : List D) : c_units_Toward.p f ds = callOf (cl_units_Toward ) f ds := Eq.trans rfl rfl
@[simp] theorem c_units_Toward_e (f : FuncId) (hs : List (Nat × O)) (ds : List D) : c_units_Toward.e f hs ds = callOfE ce_units_Toward f hs ds := Eq.trans rfl rfl
@[simp] theorem c_units_Toward_g (g : Nat) : c_units_Toward.g g = gl g := Eq.trans rfl rfl
noncomputable def L_units_Toward (i n : Nat) (s : St) : Option (E × St) := atN Tryz.prog c_units_Toward an_units_Toward 63 (bodyOf Tryz.f125) i n s
noncomputable def H_units_Toward (n i : Nat) (s : St) : Option (E × St) := atH Tryz.prog c_units_Toward an_units_Toward 63 (bodyOf Tryz.f125) n i s
@[simp] theorem H_units_Toward_eq (n i : Nat) (s : St) : H_units_Toward n i s = L_units_Toward i n (headOf (an_units_Toward.loops.lookup i) s) := rfl
noncomputable def R_units_Toward (i : Nat) (s : St) : Option (E × St) := stepL Tryz.prog c_units_Toward an_units_Toward 63 (bodyOf Tryz.f125) i s
theorem lok_units_Toward : okLoops (bodyOf Tryz.f125) = true := by kernel_rfl
noncomputable def F_units_Toward (ds : List D) : Option D := runF Tryz.prog c_units_Toward an_units_Toward 63 (bodyOf Tryz.f125) [.tmp 6] ds
theorem F_units_Toward_eq (ds : List D) : F_units_Toward ds = runG Tryz.prog c_units_Toward (H_units_Toward bigL) an_units_Toward 63 (bodyOf Tryz.f125) [.tmp 6] ds := runG_eq lok_units_Toward _ ds
theorem C_units_Toward (ds : List D) (r : D) (h : F_units_Toward ds = some r) : Contract Tryz.prog gl 125 ds r := contract_of mix Tryz.func125 rfl (by kernel_rfl) (by kernel_rfl) (by decide) (call := c_units_Toward) ⟨callOf_ok cl_units_Toward ⟨C_units_Clamp, C_math_bits_Mul64, C_math_bits_Div64, trivial⟩, callOfE_ok ce_units_Toward trivial⟩ h
-- sawmill/moist.Tick: loops []; state: params 0..4, then [5, 6, 8, 10, 18]
attribute [simp] Tryz.f116
noncomputable def an_moist_Tick : Ann := ⟨[2, 5, 6, 8, 10, 18], [16, 19], [], [], [(0, [5, 6, 10]), (1, [2, 5, 6, 8, 10]), (2, [2, 5, 6, 8, 10])], some [10], [(5, 11), (6, 14)], [], [], []⟩
@[simp] theorem an_moist_Tick_draws : an_moist_Tick.draws = [(5, 11), (6, 14)] := rfl
@[simp] theorem an_moist_Tick_exits : an_moist_Tick.exits = [(0, [5, 6, 10]), (1, [2, 5, 6, 8, 10]), (2, [2, 5, 6, 8, 10])] := rfl
@[simp] theorem an_moist_Tick_rets : an_moist_Tick.rets = some [10] := rfl
@[simp] theorem an_moist_Tick_keep : an_moist_Tick.keep = [2, 5, 6, 8, 10, 18] := rfl
@[simp] theorem an_moist_Tick_cond : an_moist_Tick.cond = [16, 19] := rfl
@[simp] theorem an_moist_Tick_rows : an_moist_Tick.rows = [] := rfl
@[simp] theorem an_moist_Tick_loops : an_moist_Tick.loops = [] := rfl
@[simp] theorem an_moist_Tick_ecalls : an_moist_Tick.ecalls = [] := rfl
@[simp] theorem an_moist_Tick_crows : an_moist_Tick.crows = [] := rfl
@[simp] theorem an_moist_Tick_tails : an_moist_Tick.tails = [] := rfl
@[simp] noncomputable def cl_moist_Tick : List (Nat × (List D → Option D)) := [(115, F_units_Clamp), (124, F_moist_computable), (125, F_units_Toward), (126, F_air_Emc)]
@[simp] noncomputable def ce_moist_Tick : List (Nat × (List (Nat × O) → List D → Option (D × List (Nat × O)))) := []
noncomputable def c_moist_Tick : CT := ⟨callOf (cl_moist_Tick ), callOfE ce_moist_Tick, gl⟩
@[simp] theorem c_moist_Tick_p (f : FuncId) (ds : List D) : c_moist_Tick.p f ds = callOf (cl_moist_Tick ) f ds := Eq.trans rfl rfl
@[simp] theorem c_moist_Tick_e (f : FuncId) (hs : List (Nat × O)) (ds : List D) : c_moist_Tick.e f hs ds = callOfE ce_moist_Tick f hs ds := Eq.trans rfl rfl
@[simp] theorem c_moist_Tick_g (g : Nat) : c_moist_Tick.g g = gl g := Eq.trans rfl rfl
noncomputable def L_moist_Tick (i n : Nat) (s : St) : Option (E × St) := atN Tryz.prog c_moist_Tick an_moist_Tick 65 (bodyOf Tryz.f116) i n s
noncomputable def H_moist_Tick (n i : Nat) (s : St) : Option (E × St) := atH Tryz.prog c_moist_Tick an_moist_Tick 65 (bodyOf Tryz.f116) n i s
@[simp] theorem H_moist_Tick_eq (n i : Nat) (s : St) : H_moist_Tick n i s = L_moist_Tick i n (headOf (an_moist_Tick.loops.lookup i) s) := rfl
noncomputable def R_moist_Tick (i : Nat) (s : St) : Option (E × St) := stepL Tryz.prog c_moist_Tick an_moist_Tick 65 (bodyOf Tryz.f116) i s
theorem lok_moist_Tick : okLoops (bodyOf Tryz.f116) = true := by kernel_rfl
noncomputable def F_moist_Tick (ds : List D) : Option D := runF Tryz.prog c_moist_Tick an_moist_Tick 65 (bodyOf Tryz.f116) [.cell 10 55] ds
theorem F_moist_Tick_eq (ds : List D) : F_moist_Tick ds = runG Tryz.prog c_moist_Tick (H_moist_Tick bigL) an_moist_Tick 65 (bodyOf Tryz.f116) [.cell 10 55] ds := runG_eq lok_moist_Tick _ ds
theorem C_moist_Tick (ds : List D) (r : D) (h : F_moist_Tick ds = some r) : Contract Tryz.prog gl 116 ds r := contract_of mix Tryz.func116 rfl (by kernel_rfl) (by kernel_rfl) (by decide) (call := c_moist_Tick) ⟨callOf_ok cl_moist_Tick ⟨C_units_Clamp, C_moist_computable, C_units_Toward, C_air_Emc, trivial⟩, callOfE_ok ce_moist_Tick trivial⟩ h
-- (*sawmill/kiln.Kiln).dried: loops [3]; state: params 0..1, then [4, 5, 6, 7, 13, 14, 15]
attribute [simp] Tryz.f99
noncomputable def an_kiln_Kiln_dried : Ann := ⟨[0, 4, 5, 6, 7, 13, 14, 15], [16], [5], [(3, [0, 1, 5, 13, 14, 15])], [(0, [5]), (1, [0, 1, 5, 13, 14, 15])], some [4], [(5, 16)], [(71, false)], [], []⟩
@[simp] theorem an_kiln_Kiln_dried_draws : an_kiln_Kiln_dried.draws = [(5, 16)] := rfl
@[simp] theorem an_kiln_Kiln_dried_exits : an_kiln_Kiln_dried.exits = [(0, [5]), (1, [0, 1, 5, 13, 14, 15])] := rfl
@[simp] theorem an_kiln_Kiln_dried_rets : an_kiln_Kiln_dried.rets = some [4] := rfl
@[simp] theorem an_kiln_Kiln_dried_keep : an_kiln_Kiln_dried.keep = [0, 4, 5, 6, 7, 13, 14, 15] := rfl
@[simp] theorem an_kiln_Kiln_dried_cond : an_kiln_Kiln_dried.cond = [16] := rfl
@[simp] theorem an_kiln_Kiln_dried_rows : an_kiln_Kiln_dried.rows = [5] := rfl
@[simp] theorem an_kiln_Kiln_dried_loops : an_kiln_Kiln_dried.loops = [(3, [0, 1, 5, 13, 14, 15])] := rfl
@[simp] theorem an_kiln_Kiln_dried_ecalls : an_kiln_Kiln_dried.ecalls = [(71, false)] := rfl
@[simp] theorem an_kiln_Kiln_dried_crows : an_kiln_Kiln_dried.crows = [] := rfl
@[simp] theorem an_kiln_Kiln_dried_tails : an_kiln_Kiln_dried.tails = [] := rfl
@[simp] noncomputable def cl_kiln_Kiln_dried : List (Nat × (List D → Option D)) := [(116, F_moist_Tick)]
@[simp] noncomputable def ce_kiln_Kiln_dried : List (Nat × (List (Nat × O) → List D → Option (D × List (Nat × O)))) := [(71, E_slices_Clone_kiln_Item_kiln_Item_obj)]
noncomputable def c_kiln_Kiln_dried : CT := ⟨callOf (cl_kiln_Kiln_dried ), callOfE ce_kiln_Kiln_dried, gl⟩
@[simp] theorem c_kiln_Kiln_dried_p (f : FuncId) (ds : List D) : c_kiln_Kiln_dried.p f ds = callOf (cl_kiln_Kiln_dried ) f ds := Eq.trans rfl rfl
@[simp] theorem c_kiln_Kiln_dried_e (f : FuncId) (hs : List (Nat × O)) (ds : List D) : c_kiln_Kiln_dried.e f hs ds = callOfE ce_kiln_Kiln_dried f hs ds := Eq.trans rfl rfl
@[simp] theorem c_kiln_Kiln_dried_g (g : Nat) : c_kiln_Kiln_dried.g g = gl g := Eq.trans rfl rfl
noncomputable def L_kiln_Kiln_dried (i n : Nat) (s : St) : Option (E × St) := atN Tryz.prog c_kiln_Kiln_dried an_kiln_Kiln_dried 40 (bodyOf Tryz.f99) i n s
noncomputable def H_kiln_Kiln_dried (n i : Nat) (s : St) : Option (E × St) := atH Tryz.prog c_kiln_Kiln_dried an_kiln_Kiln_dried 40 (bodyOf Tryz.f99) n i s
@[simp] theorem H_kiln_Kiln_dried_eq (n i : Nat) (s : St) : H_kiln_Kiln_dried n i s = L_kiln_Kiln_dried i n (headOf (an_kiln_Kiln_dried.loops.lookup i) s) := rfl
noncomputable def R_kiln_Kiln_dried (i : Nat) (s : St) : Option (E × St) := stepL Tryz.prog c_kiln_Kiln_dried an_kiln_Kiln_dried 40 (bodyOf Tryz.f99) i s
theorem lok_kiln_Kiln_dried : okLoops (bodyOf Tryz.f99) = true := by kernel_rfl
theorem L_kiln_Kiln_dried_zero (i : Nat) (s : St) : L_kiln_Kiln_dried i 0 s = none := rfl
theorem L_kiln_Kiln_dried_succ (i n : Nat) (s : St) : L_kiln_Kiln_dried i (n + 1) s = andThen (R_kiln_Kiln_dried i s) (H_kiln_Kiln_dried n i) := atN_succ lok_kiln_Kiln_dried i n s
theorem R_kiln_Kiln_dried_eq (i : Nat) (s : St) : R_kiln_Kiln_dried i s = runS Tryz.prog c_kiln_Kiln_dried (H_kiln_Kiln_dried bigL) an_kiln_Kiln_dried 40 (loopAt (bodyOf Tryz.f99) i) s := rfl
noncomputable def F_kiln_Kiln_dried (ds : List D) : Option D := runF Tryz.prog c_kiln_Kiln_dried an_kiln_Kiln_dried 40 (bodyOf Tryz.f99) [.tmp 4] ds
theorem F_kiln_Kiln_dried_eq (ds : List D) : F_kiln_Kiln_dried ds = runG Tryz.prog c_kiln_Kiln_dried (H_kiln_Kiln_dried bigL) an_kiln_Kiln_dried 40 (bodyOf Tryz.f99) [.tmp 4] ds := runG_eq lok_kiln_Kiln_dried _ ds
theorem C_kiln_Kiln_dried (ds : List D) (r : D) (h : F_kiln_Kiln_dried ds = some r) : Contract Tryz.prog gl 99 ds r := contract_of mix Tryz.func99 rfl (by kernel_rfl) (by kernel_rfl) (by decide) (call := c_kiln_Kiln_dried) ⟨callOf_ok cl_kiln_Kiln_dried ⟨C_moist_Tick, trivial⟩, callOfE_ok ce_kiln_Kiln_dried ⟨CE_slices_Clone_kiln_Item_kiln_Item_obj, trivial⟩⟩ h
-- (*sawmill/kiln.Kiln).steep: loops [2]; state: params 0..1, then [4, 5, 6, 7, 8, 9, 10]
attribute [simp] Tryz.f100
noncomputable def an_kiln_Kiln_steep : Ann := ⟨[4, 5, 6, 7, 8, 9, 10], [11, 37], [], [(2, [0, 8, 9, 10])], [(0, []), (1, [0, 8, 9, 10])], some [4], [], [], [], []⟩
@[simp] theorem an_kiln_Kiln_steep_draws : an_kiln_Kiln_steep.draws = [] := rfl
@[simp] theorem an_kiln_Kiln_steep_exits : an_kiln_Kiln_steep.exits = [(0, []), (1, [0, 8, 9, 10])] := rfl
@[simp] theorem an_kiln_Kiln_steep_rets : an_kiln_Kiln_steep.rets = some [4] := rfl
@[simp] theorem an_kiln_Kiln_steep_keep : an_kiln_Kiln_steep.keep = [4, 5, 6, 7, 8, 9, 10] := rfl
@[simp] theorem an_kiln_Kiln_steep_cond : an_kiln_Kiln_steep.cond = [11, 37] := rfl
@[simp] theorem an_kiln_Kiln_steep_rows : an_kiln_Kiln_steep.rows = [] := rfl
@[simp] theorem an_kiln_Kiln_steep_loops : an_kiln_Kiln_steep.loops = [(2, [0, 8, 9, 10])] := rfl
@[simp] theorem an_kiln_Kiln_steep_ecalls : an_kiln_Kiln_steep.ecalls = [] := rfl
@[simp] theorem an_kiln_Kiln_steep_crows : an_kiln_Kiln_steep.crows = [] := rfl
@[simp] theorem an_kiln_Kiln_steep_tails : an_kiln_Kiln_steep.tails = [] := rfl
@[simp] noncomputable def cl_kiln_Kiln_steep : List (Nat × (List D → Option D)) := [(95, F_moist_Gradient)]
@[simp] noncomputable def ce_kiln_Kiln_steep : List (Nat × (List (Nat × O) → List D → Option (D × List (Nat × O)))) := []
noncomputable def c_kiln_Kiln_steep : CT := ⟨callOf (cl_kiln_Kiln_steep ), callOfE ce_kiln_Kiln_steep, gl⟩
@[simp] theorem c_kiln_Kiln_steep_p (f : FuncId) (ds : List D) : c_kiln_Kiln_steep.p f ds = callOf (cl_kiln_Kiln_steep ) f ds := Eq.trans rfl rfl
@[simp] theorem c_kiln_Kiln_steep_e (f : FuncId) (hs : List (Nat × O)) (ds : List D) : c_kiln_Kiln_steep.e f hs ds = callOfE ce_kiln_Kiln_steep f hs ds := Eq.trans rfl rfl
@[simp] theorem c_kiln_Kiln_steep_g (g : Nat) : c_kiln_Kiln_steep.g g = gl g := Eq.trans rfl rfl
noncomputable def L_kiln_Kiln_steep (i n : Nat) (s : St) : Option (E × St) := atN Tryz.prog c_kiln_Kiln_steep an_kiln_Kiln_steep 39 (bodyOf Tryz.f100) i n s
noncomputable def H_kiln_Kiln_steep (n i : Nat) (s : St) : Option (E × St) := atH Tryz.prog c_kiln_Kiln_steep an_kiln_Kiln_steep 39 (bodyOf Tryz.f100) n i s
@[simp] theorem H_kiln_Kiln_steep_eq (n i : Nat) (s : St) : H_kiln_Kiln_steep n i s = L_kiln_Kiln_steep i n (headOf (an_kiln_Kiln_steep.loops.lookup i) s) := rfl
noncomputable def R_kiln_Kiln_steep (i : Nat) (s : St) : Option (E × St) := stepL Tryz.prog c_kiln_Kiln_steep an_kiln_Kiln_steep 39 (bodyOf Tryz.f100) i s
theorem lok_kiln_Kiln_steep : okLoops (bodyOf Tryz.f100) = true := by kernel_rfl
theorem L_kiln_Kiln_steep_zero (i : Nat) (s : St) : L_kiln_Kiln_steep i 0 s = none := rfl
theorem L_kiln_Kiln_steep_succ (i n : Nat) (s : St) : L_kiln_Kiln_steep i (n + 1) s = andThen (R_kiln_Kiln_steep i s) (H_kiln_Kiln_steep n i) := atN_succ lok_kiln_Kiln_steep i n s
theorem R_kiln_Kiln_steep_eq (i : Nat) (s : St) : R_kiln_Kiln_steep i s = runS Tryz.prog c_kiln_Kiln_steep (H_kiln_Kiln_steep bigL) an_kiln_Kiln_steep 39 (loopAt (bodyOf Tryz.f100) i) s := rfl
noncomputable def F_kiln_Kiln_steep (ds : List D) : Option D := runF Tryz.prog c_kiln_Kiln_steep an_kiln_Kiln_steep 39 (bodyOf Tryz.f100) [.tmp 4] ds
theorem F_kiln_Kiln_steep_eq (ds : List D) : F_kiln_Kiln_steep ds = runG Tryz.prog c_kiln_Kiln_steep (H_kiln_Kiln_steep bigL) an_kiln_Kiln_steep 39 (bodyOf Tryz.f100) [.tmp 4] ds := runG_eq lok_kiln_Kiln_steep _ ds
theorem C_kiln_Kiln_steep (ds : List D) (r : D) (h : F_kiln_Kiln_steep ds = some r) : Contract Tryz.prog gl 100 ds r := contract_of mix Tryz.func100 rfl (by kernel_rfl) (by kernel_rfl) (by decide) (call := c_kiln_Kiln_steep) ⟨callOf_ok cl_kiln_Kiln_steep ⟨C_moist_Gradient, trivial⟩, callOfE_ok ce_kiln_Kiln_steep trivial⟩ h
-- (*sawmill/kiln.Kiln).Mean: loops [5]; state: params 0..0, then [2, 3, 5, 19, 20, 21]
attribute [simp] Tryz.f102
noncomputable def an_kiln_Kiln_Mean : Ann := ⟨[0, 2, 3, 5, 19, 20, 21], [15, 22], [], [(5, [0, 3, 19, 20, 21])], [(0, [0, 3]), (1, [0, 3, 19, 20, 21])], some [2], [], [], [], []⟩
@[simp] theorem an_kiln_Kiln_Mean_draws : an_kiln_Kiln_Mean.draws = [] := rfl
@[simp] theorem an_kiln_Kiln_Mean_exits : an_kiln_Kiln_Mean.exits = [(0, [0, 3]), (1, [0, 3, 19, 20, 21])] := rfl
@[simp] theorem an_kiln_Kiln_Mean_rets : an_kiln_Kiln_Mean.rets = some [2] := rfl
@[simp] theorem an_kiln_Kiln_Mean_keep : an_kiln_Kiln_Mean.keep = [0, 2, 3, 5, 19, 20, 21] := rfl
@[simp] theorem an_kiln_Kiln_Mean_cond : an_kiln_Kiln_Mean.cond = [15, 22] := rfl
@[simp] theorem an_kiln_Kiln_Mean_rows : an_kiln_Kiln_Mean.rows = [] := rfl
@[simp] theorem an_kiln_Kiln_Mean_loops : an_kiln_Kiln_Mean.loops = [(5, [0, 3, 19, 20, 21])] := rfl
@[simp] theorem an_kiln_Kiln_Mean_ecalls : an_kiln_Kiln_Mean.ecalls = [] := rfl
@[simp] theorem an_kiln_Kiln_Mean_crows : an_kiln_Kiln_Mean.crows = [] := rfl
@[simp] theorem an_kiln_Kiln_Mean_tails : an_kiln_Kiln_Mean.tails = [] := rfl
@[simp] noncomputable def cl_kiln_Kiln_Mean : List (Nat × (List D → Option D)) := []
@[simp] noncomputable def ce_kiln_Kiln_Mean : List (Nat × (List (Nat × O) → List D → Option (D × List (Nat × O)))) := []
noncomputable def c_kiln_Kiln_Mean : CT := ⟨callOf (cl_kiln_Kiln_Mean ), callOfE ce_kiln_Kiln_Mean, gl⟩
@[simp] theorem c_kiln_Kiln_Mean_p (f : FuncId) (ds : List D) : c_kiln_Kiln_Mean.p f ds = callOf (cl_kiln_Kiln_Mean ) f ds := Eq.trans rfl rfl
@[simp] theorem c_kiln_Kiln_Mean_e (f : FuncId) (hs : List (Nat × O)) (ds : List D) : c_kiln_Kiln_Mean.e f hs ds = callOfE ce_kiln_Kiln_Mean f hs ds := Eq.trans rfl rfl
@[simp] theorem c_kiln_Kiln_Mean_g (g : Nat) : c_kiln_Kiln_Mean.g g = gl g := Eq.trans rfl rfl
noncomputable def L_kiln_Kiln_Mean (i n : Nat) (s : St) : Option (E × St) := atN Tryz.prog c_kiln_Kiln_Mean an_kiln_Kiln_Mean 38 (bodyOf Tryz.f102) i n s
noncomputable def H_kiln_Kiln_Mean (n i : Nat) (s : St) : Option (E × St) := atH Tryz.prog c_kiln_Kiln_Mean an_kiln_Kiln_Mean 38 (bodyOf Tryz.f102) n i s
@[simp] theorem H_kiln_Kiln_Mean_eq (n i : Nat) (s : St) : H_kiln_Kiln_Mean n i s = L_kiln_Kiln_Mean i n (headOf (an_kiln_Kiln_Mean.loops.lookup i) s) := rfl
noncomputable def R_kiln_Kiln_Mean (i : Nat) (s : St) : Option (E × St) := stepL Tryz.prog c_kiln_Kiln_Mean an_kiln_Kiln_Mean 38 (bodyOf Tryz.f102) i s
theorem lok_kiln_Kiln_Mean : okLoops (bodyOf Tryz.f102) = true := by kernel_rfl
theorem L_kiln_Kiln_Mean_zero (i : Nat) (s : St) : L_kiln_Kiln_Mean i 0 s = none := rfl
theorem L_kiln_Kiln_Mean_succ (i n : Nat) (s : St) : L_kiln_Kiln_Mean i (n + 1) s = andThen (R_kiln_Kiln_Mean i s) (H_kiln_Kiln_Mean n i) := atN_succ lok_kiln_Kiln_Mean i n s
theorem R_kiln_Kiln_Mean_eq (i : Nat) (s : St) : R_kiln_Kiln_Mean i s = runS Tryz.prog c_kiln_Kiln_Mean (H_kiln_Kiln_Mean bigL) an_kiln_Kiln_Mean 38 (loopAt (bodyOf Tryz.f102) i) s := rfl
noncomputable def F_kiln_Kiln_Mean (ds : List D) : Option D := runF Tryz.prog c_kiln_Kiln_Mean an_kiln_Kiln_Mean 38 (bodyOf Tryz.f102) [.tmp 2] ds
theorem F_kiln_Kiln_Mean_eq (ds : List D) : F_kiln_Kiln_Mean ds = runG Tryz.prog c_kiln_Kiln_Mean (H_kiln_Kiln_Mean bigL) an_kiln_Kiln_Mean 38 (bodyOf Tryz.f102) [.tmp 2] ds := runG_eq lok_kiln_Kiln_Mean _ ds
theorem C_kiln_Kiln_Mean (ds : List D) (r : D) (h : F_kiln_Kiln_Mean ds = some r) : Contract Tryz.prog gl 102 ds r := contract_of mix Tryz.func102 rfl (by kernel_rfl) (by kernel_rfl) (by decide) (call := c_kiln_Kiln_Mean) ⟨callOf_ok cl_kiln_Kiln_Mean trivial, callOfE_ok ce_kiln_Kiln_Mean trivial⟩ h
-- sawmill/schedule.Ends: loops []; state: params 0..3, then [4, 8, 9, 10]
attribute [simp] Tryz.f101
noncomputable def an_schedule_Ends : Ann := ⟨[1, 4, 8, 9, 10], [19, 44], [], [], [], some [8, 9], [], [], [], []⟩
@[simp] theorem an_schedule_Ends_draws : an_schedule_Ends.draws = [] := rfl
@[simp] theorem an_schedule_Ends_exits : an_schedule_Ends.exits = [] := rfl
@[simp] theorem an_schedule_Ends_rets : an_schedule_Ends.rets = some [8, 9] := rfl
@[simp] theorem an_schedule_Ends_keep : an_schedule_Ends.keep = [1, 4, 8, 9, 10] := rfl
@[simp] theorem an_schedule_Ends_cond : an_schedule_Ends.cond = [19, 44] := rfl
@[simp] theorem an_schedule_Ends_rows : an_schedule_Ends.rows = [] := rfl
@[simp] theorem an_schedule_Ends_loops : an_schedule_Ends.loops = [] := rfl
@[simp] theorem an_schedule_Ends_ecalls : an_schedule_Ends.ecalls = [] := rfl
@[simp] theorem an_schedule_Ends_crows : an_schedule_Ends.crows = [] := rfl
@[simp] theorem an_schedule_Ends_tails : an_schedule_Ends.tails = [] := rfl
@[simp] noncomputable def cl_schedule_Ends : List (Nat × (List D → Option D)) := []
@[simp] noncomputable def ce_schedule_Ends : List (Nat × (List (Nat × O) → List D → Option (D × List (Nat × O)))) := []
noncomputable def c_schedule_Ends : CT := ⟨callOf (cl_schedule_Ends ), callOfE ce_schedule_Ends, gl⟩
@[simp] theorem c_schedule_Ends_p (f : FuncId) (ds : List D) : c_schedule_Ends.p f ds = callOf (cl_schedule_Ends ) f ds := Eq.trans rfl rfl
@[simp] theorem c_schedule_Ends_e (f : FuncId) (hs : List (Nat × O)) (ds : List D) : c_schedule_Ends.e f hs ds = callOfE ce_schedule_Ends f hs ds := Eq.trans rfl rfl
@[simp] theorem c_schedule_Ends_g (g : Nat) : c_schedule_Ends.g g = gl g := Eq.trans rfl rfl
noncomputable def L_schedule_Ends (i n : Nat) (s : St) : Option (E × St) := atN Tryz.prog c_schedule_Ends an_schedule_Ends 48 (bodyOf Tryz.f101) i n s
noncomputable def H_schedule_Ends (n i : Nat) (s : St) : Option (E × St) := atH Tryz.prog c_schedule_Ends an_schedule_Ends 48 (bodyOf Tryz.f101) n i s
@[simp] theorem H_schedule_Ends_eq (n i : Nat) (s : St) : H_schedule_Ends n i s = L_schedule_Ends i n (headOf (an_schedule_Ends.loops.lookup i) s) := rfl
noncomputable def R_schedule_Ends (i : Nat) (s : St) : Option (E × St) := stepL Tryz.prog c_schedule_Ends an_schedule_Ends 48 (bodyOf Tryz.f101) i s
theorem lok_schedule_Ends : okLoops (bodyOf Tryz.f101) = true := by kernel_rfl
noncomputable def F_schedule_Ends (ds : List D) : Option D := runF Tryz.prog c_schedule_Ends an_schedule_Ends 48 (bodyOf Tryz.f101) [.tmp 8, .tmp 9] ds
theorem F_schedule_Ends_eq (ds : List D) : F_schedule_Ends ds = runG Tryz.prog c_schedule_Ends (H_schedule_Ends bigL) an_schedule_Ends 48 (bodyOf Tryz.f101) [.tmp 8, .tmp 9] ds := runG_eq lok_schedule_Ends _ ds
theorem C_schedule_Ends (ds : List D) (r : D) (h : F_schedule_Ends ds = some r) : Contract Tryz.prog gl 101 ds r := contract_of mix Tryz.func101 rfl (by kernel_rfl) (by kernel_rfl) (by decide) (call := c_schedule_Ends) ⟨callOf_ok cl_schedule_Ends trivial, callOfE_ok ce_schedule_Ends trivial⟩ h
-- (*sawmill/kiln.Kiln).Tick: loops []; state: params 0..1, then [4, 5, 6, 7, 8, 9]; WITH OBJECTS
attribute [simp] Tryz.f76
noncomputable def an_kiln_Kiln_Tick : Ann := ⟨[0, 1, 4, 5, 6, 7, 8, 9], [15, 55, 101], [], [], [], some [4], [(3, 14), (4, 13), (13, 19)], [], [], []⟩
@[simp] theorem an_kiln_Kiln_Tick_draws : an_kiln_Kiln_Tick.draws = [(3, 14), (4, 13), (13, 19)] := rfl
@[simp] theorem an_kiln_Kiln_Tick_exits : an_kiln_Kiln_Tick.exits = [] := rfl
@[simp] theorem an_kiln_Kiln_Tick_rets : an_kiln_Kiln_Tick.rets = some [4] := rfl
@[simp] theorem an_kiln_Kiln_Tick_keep : an_kiln_Kiln_Tick.keep = [0, 1, 4, 5, 6, 7, 8, 9] := rfl
@[simp] theorem an_kiln_Kiln_Tick_cond : an_kiln_Kiln_Tick.cond = [15, 55, 101] := rfl
@[simp] theorem an_kiln_Kiln_Tick_rows : an_kiln_Kiln_Tick.rows = [] := rfl
@[simp] theorem an_kiln_Kiln_Tick_loops : an_kiln_Kiln_Tick.loops = [] := rfl
@[simp] theorem an_kiln_Kiln_Tick_ecalls : an_kiln_Kiln_Tick.ecalls = [] := rfl
@[simp] theorem an_kiln_Kiln_Tick_crows : an_kiln_Kiln_Tick.crows = [] := rfl
@[simp] theorem an_kiln_Kiln_Tick_tails : an_kiln_Kiln_Tick.tails = [] := rfl
@[simp] noncomputable def cl_kiln_Kiln_Tick : List (Nat × (List D → Option D)) := [(75, F_kiln_Kiln_Done), (96, F_schedule_Target), (97, F_air_Next), (98, F_kiln_still), (99, F_kiln_Kiln_dried), (100, F_kiln_Kiln_steep), (101, F_schedule_Ends), (102, F_kiln_Kiln_Mean)]
@[simp] noncomputable def ce_kiln_Kiln_Tick : List (Nat × (List (Nat × O) → List D → Option (D × List (Nat × O)))) := []
noncomputable def c_kiln_Kiln_Tick : CT := ⟨callOf (cl_kiln_Kiln_Tick ), callOfE ce_kiln_Kiln_Tick, gl⟩
@[simp] theorem c_kiln_Kiln_Tick_p (f : FuncId) (ds : List D) : c_kiln_Kiln_Tick.p f ds = callOf (cl_kiln_Kiln_Tick ) f ds := Eq.trans rfl rfl
@[simp] theorem c_kiln_Kiln_Tick_e (f : FuncId) (hs : List (Nat × O)) (ds : List D) : c_kiln_Kiln_Tick.e f hs ds = callOfE ce_kiln_Kiln_Tick f hs ds := Eq.trans rfl rfl
@[simp] theorem c_kiln_Kiln_Tick_g (g : Nat) : c_kiln_Kiln_Tick.g g = gl g := Eq.trans rfl rfl
noncomputable def L_kiln_Kiln_Tick (i n : Nat) (s : St) : Option (E × St) := atN Tryz.prog c_kiln_Kiln_Tick an_kiln_Kiln_Tick 112 (bodyOf Tryz.f76) i n s
noncomputable def H_kiln_Kiln_Tick (n i : Nat) (s : St) : Option (E × St) := atH Tryz.prog c_kiln_Kiln_Tick an_kiln_Kiln_Tick 112 (bodyOf Tryz.f76) n i s
@[simp] theorem H_kiln_Kiln_Tick_eq (n i : Nat) (s : St) : H_kiln_Kiln_Tick n i s = L_kiln_Kiln_Tick i n (headOf (an_kiln_Kiln_Tick.loops.lookup i) s) := rfl
noncomputable def R_kiln_Kiln_Tick (i : Nat) (s : St) : Option (E × St) := stepL Tryz.prog c_kiln_Kiln_Tick an_kiln_Kiln_Tick 112 (bodyOf Tryz.f76) i s
theorem lok_kiln_Kiln_Tick : okLoops (bodyOf Tryz.f76) = true := by kernel_rfl
noncomputable def E_kiln_Kiln_Tick (hs : List (Nat × O)) (ds : List D) : Option (D × List (Nat × O)) := runE Tryz.prog c_kiln_Kiln_Tick an_kiln_Kiln_Tick 112 (bodyOf Tryz.f76) [.tmp 4] hs ds
theorem E_kiln_Kiln_Tick_eq (hs : List (Nat × O)) (ds : List D) : E_kiln_Kiln_Tick hs ds = runGE Tryz.prog c_kiln_Kiln_Tick (H_kiln_Kiln_Tick bigL) an_kiln_Kiln_Tick 112 (bodyOf Tryz.f76) [.tmp 4] hs ds := runGE_eq lok_kiln_Kiln_Tick _ hs ds
theorem CE_kiln_Kiln_Tick (hs : List (Nat × O)) (ds : List D) (r : D) (hs' : List (Nat × O)) (h : E_kiln_Kiln_Tick hs ds = some (r, hs')) : ContractE Tryz.prog gl 76 hs ds r hs' := contractE_of mix Tryz.func76 rfl (by kernel_rfl) (by kernel_rfl) (by decide) (call := c_kiln_Kiln_Tick) ⟨callOf_ok cl_kiln_Kiln_Tick ⟨C_kiln_Kiln_Done, C_schedule_Target, C_air_Next, C_kiln_still, C_kiln_Kiln_dried, C_kiln_Kiln_steep, C_schedule_Ends, C_kiln_Kiln_Mean, trivial⟩, callOfE_ok ce_kiln_Kiln_Tick trivial⟩ h
-- (*sawmill/kiln.Kiln).Ticks: loops []; state: params 0..0, then [2, 3]
attribute [simp] Tryz.f77
noncomputable def an_kiln_Kiln_Ticks : Ann := ⟨[0, 2, 3], [5], [], [], [], some [2, 3], [(3, 9)], [], [], []⟩
@[simp] theorem an_kiln_Kiln_Ticks_draws : an_kiln_Kiln_Ticks.draws = [(3, 9)] := rfl
@[simp] theorem an_kiln_Kiln_Ticks_exits : an_kiln_Kiln_Ticks.exits = [] := rfl
@[simp] theorem an_kiln_Kiln_Ticks_rets : an_kiln_Kiln_Ticks.rets = some [2, 3] := rfl
@[simp] theorem an_kiln_Kiln_Ticks_keep : an_kiln_Kiln_Ticks.keep = [0, 2, 3] := rfl
@[simp] theorem an_kiln_Kiln_Ticks_cond : an_kiln_Kiln_Ticks.cond = [5] := rfl
@[simp] theorem an_kiln_Kiln_Ticks_rows : an_kiln_Kiln_Ticks.rows = [] := rfl
@[simp] theorem an_kiln_Kiln_Ticks_loops : an_kiln_Kiln_Ticks.loops = [] := rfl
@[simp] theorem an_kiln_Kiln_Ticks_ecalls : an_kiln_Kiln_Ticks.ecalls = [] := rfl
@[simp] theorem an_kiln_Kiln_Ticks_crows : an_kiln_Kiln_Ticks.crows = [] := rfl
@[simp] theorem an_kiln_Kiln_Ticks_tails : an_kiln_Kiln_Ticks.tails = [] := rfl
@[simp] noncomputable def cl_kiln_Kiln_Ticks : List (Nat × (List D → Option D)) := []
@[simp] noncomputable def ce_kiln_Kiln_Ticks : List (Nat × (List (Nat × O) → List D → Option (D × List (Nat × O)))) := []
noncomputable def c_kiln_Kiln_Ticks : CT := ⟨callOf (cl_kiln_Kiln_Ticks ), callOfE ce_kiln_Kiln_Ticks, gl⟩
@[simp] theorem c_kiln_Kiln_Ticks_p (f : FuncId) (ds : List D) : c_kiln_Kiln_Ticks.p f ds = callOf (cl_kiln_Kiln_Ticks ) f ds := Eq.trans rfl rfl
@[simp] theorem c_kiln_Kiln_Ticks_e (f : FuncId) (hs : List (Nat × O)) (ds : List D) : c_kiln_Kiln_Ticks.e f hs ds = callOfE ce_kiln_Kiln_Ticks f hs ds := Eq.trans rfl rfl
@[simp] theorem c_kiln_Kiln_Ticks_g (g : Nat) : c_kiln_Kiln_Ticks.g g = gl g := Eq.trans rfl rfl
noncomputable def L_kiln_Kiln_Ticks (i n : Nat) (s : St) : Option (E × St) := atN Tryz.prog c_kiln_Kiln_Ticks an_kiln_Kiln_Ticks 14 (bodyOf Tryz.f77) i n s
noncomputable def H_kiln_Kiln_Ticks (n i : Nat) (s : St) : Option (E × St) := atH Tryz.prog c_kiln_Kiln_Ticks an_kiln_Kiln_Ticks 14 (bodyOf Tryz.f77) n i s
@[simp] theorem H_kiln_Kiln_Ticks_eq (n i : Nat) (s : St) : H_kiln_Kiln_Ticks n i s = L_kiln_Kiln_Ticks i n (headOf (an_kiln_Kiln_Ticks.loops.lookup i) s) := rfl
noncomputable def R_kiln_Kiln_Ticks (i : Nat) (s : St) : Option (E × St) := stepL Tryz.prog c_kiln_Kiln_Ticks an_kiln_Kiln_Ticks 14 (bodyOf Tryz.f77) i s
theorem lok_kiln_Kiln_Ticks : okLoops (bodyOf Tryz.f77) = true := by kernel_rfl
noncomputable def F_kiln_Kiln_Ticks (ds : List D) : Option D := runF Tryz.prog c_kiln_Kiln_Ticks an_kiln_Kiln_Ticks 14 (bodyOf Tryz.f77) [.tmp 2, .tmp 3] ds
theorem F_kiln_Kiln_Ticks_eq (ds : List D) : F_kiln_Kiln_Ticks ds = runG Tryz.prog c_kiln_Kiln_Ticks (H_kiln_Kiln_Ticks bigL) an_kiln_Kiln_Ticks 14 (bodyOf Tryz.f77) [.tmp 2, .tmp 3] ds := runG_eq lok_kiln_Kiln_Ticks _ ds
theorem C_kiln_Kiln_Ticks (ds : List D) (r : D) (h : F_kiln_Kiln_Ticks ds = some r) : Contract Tryz.prog gl 77 ds r := contract_of mix Tryz.func77 rfl (by kernel_rfl) (by kernel_rfl) (by decide) (call := c_kiln_Kiln_Ticks) ⟨callOf_ok cl_kiln_Kiln_Ticks trivial, callOfE_ok ce_kiln_Kiln_Ticks trivial⟩ h
-- (*sawmill/kiln.Kiln).Stage: loops []; state: params 0..0, then [2]
attribute [simp] Tryz.f78
noncomputable def an_kiln_Kiln_Stage : Ann := ⟨[0, 2], [4], [], [], [], some [2], [], [], [], []⟩
@[simp] theorem an_kiln_Kiln_Stage_draws : an_kiln_Kiln_Stage.draws = [] := rfl
@[simp] theorem an_kiln_Kiln_Stage_exits : an_kiln_Kiln_Stage.exits = [] := rfl
@[simp] theorem an_kiln_Kiln_Stage_rets : an_kiln_Kiln_Stage.rets = some [2] := rfl
@[simp] theorem an_kiln_Kiln_Stage_keep : an_kiln_Kiln_Stage.keep = [0, 2] := rfl
@[simp] theorem an_kiln_Kiln_Stage_cond : an_kiln_Kiln_Stage.cond = [4] := rfl
@[simp] theorem an_kiln_Kiln_Stage_rows : an_kiln_Kiln_Stage.rows = [] := rfl
@[simp] theorem an_kiln_Kiln_Stage_loops : an_kiln_Kiln_Stage.loops = [] := rfl
@[simp] theorem an_kiln_Kiln_Stage_ecalls : an_kiln_Kiln_Stage.ecalls = [] := rfl
@[simp] theorem an_kiln_Kiln_Stage_crows : an_kiln_Kiln_Stage.crows = [] := rfl
@[simp] theorem an_kiln_Kiln_Stage_tails : an_kiln_Kiln_Stage.tails = [] := rfl
@[simp] noncomputable def cl_kiln_Kiln_Stage : List (Nat × (List D → Option D)) := []
@[simp] noncomputable def ce_kiln_Kiln_Stage : List (Nat × (List (Nat × O) → List D → Option (D × List (Nat × O)))) := []
noncomputable def c_kiln_Kiln_Stage : CT := ⟨callOf (cl_kiln_Kiln_Stage ), callOfE ce_kiln_Kiln_Stage, gl⟩
@[simp] theorem c_kiln_Kiln_Stage_p (f : FuncId) (ds : List D) : c_kiln_Kiln_Stage.p f ds = callOf (cl_kiln_Kiln_Stage ) f ds := Eq.trans rfl rfl
@[simp] theorem c_kiln_Kiln_Stage_e (f : FuncId) (hs : List (Nat × O)) (ds : List D) : c_kiln_Kiln_Stage.e f hs ds = callOfE ce_kiln_Kiln_Stage f hs ds := Eq.trans rfl rfl
@[simp] theorem c_kiln_Kiln_Stage_g (g : Nat) : c_kiln_Kiln_Stage.g g = gl g := Eq.trans rfl rfl
noncomputable def L_kiln_Kiln_Stage (i n : Nat) (s : St) : Option (E × St) := atN Tryz.prog c_kiln_Kiln_Stage an_kiln_Kiln_Stage 9 (bodyOf Tryz.f78) i n s
noncomputable def H_kiln_Kiln_Stage (n i : Nat) (s : St) : Option (E × St) := atH Tryz.prog c_kiln_Kiln_Stage an_kiln_Kiln_Stage 9 (bodyOf Tryz.f78) n i s
@[simp] theorem H_kiln_Kiln_Stage_eq (n i : Nat) (s : St) : H_kiln_Kiln_Stage n i s = L_kiln_Kiln_Stage i n (headOf (an_kiln_Kiln_Stage.loops.lookup i) s) := rfl
noncomputable def R_kiln_Kiln_Stage (i : Nat) (s : St) : Option (E × St) := stepL Tryz.prog c_kiln_Kiln_Stage an_kiln_Kiln_Stage 9 (bodyOf Tryz.f78) i s
theorem lok_kiln_Kiln_Stage : okLoops (bodyOf Tryz.f78) = true := by kernel_rfl
noncomputable def F_kiln_Kiln_Stage (ds : List D) : Option D := runF Tryz.prog c_kiln_Kiln_Stage an_kiln_Kiln_Stage 9 (bodyOf Tryz.f78) [.tmp 2] ds
theorem F_kiln_Kiln_Stage_eq (ds : List D) : F_kiln_Kiln_Stage ds = runG Tryz.prog c_kiln_Kiln_Stage (H_kiln_Kiln_Stage bigL) an_kiln_Kiln_Stage 9 (bodyOf Tryz.f78) [.tmp 2] ds := runG_eq lok_kiln_Kiln_Stage _ ds
theorem C_kiln_Kiln_Stage (ds : List D) (r : D) (h : F_kiln_Kiln_Stage ds = some r) : Contract Tryz.prog gl 78 ds r := contract_of mix Tryz.func78 rfl (by kernel_rfl) (by kernel_rfl) (by decide) (call := c_kiln_Kiln_Stage) ⟨callOf_ok cl_kiln_Kiln_Stage trivial, callOfE_ok ce_kiln_Kiln_Stage trivial⟩ h
end Go.Proofs.YtdefohgkniglpaaGreatDoor
