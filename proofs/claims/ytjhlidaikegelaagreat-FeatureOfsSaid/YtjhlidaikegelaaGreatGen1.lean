/-
  Printed by gen.py for this seat: facts about the types that the laws reach; for each function its annotation (what is kept behind a region, which rows are a variable's own, what is alive at the head of a loop), its abstract run, and that the run is its contract.
-/
import Derived.Test.YtjhlidaikegelaaGreatAbs2
import Derived.Test.YtjhlidaikegelaaGreatRows
import Derived.Test.YtjhlidaikegelaaGreatWeak
namespace Go.Proofs.YtjhlidaikegelaaGreat
open Go Go.Abs
set_option maxRecDepth 100000
set_option linter.unusedSimpArgs false
set_option linter.unusedVariables false
theorem mix : Tryz.prog.follows .mixedOrders = true := by kernel_rfl
theorem laid : laidOutB Tryz.prog = true := by kernel_rfl
@[simp] noncomputable def gl (g : Nat) : Option (List D) := none
-- 0 ()
attribute [simp] Tryz.underlying0
@[simp] theorem sz0 : szT Tryz.prog 0 = some 1 := by kernel_rfl
@[simp] theorem co0 : Tryz.prog.cellsOf 0 = 1 := by kernel_rfl
@[simp] theorem ag0 : aggT Tryz.prog 0 = some false := by kernel_rfl
-- 1 func()
attribute [simp] Tryz.underlying1
@[simp] theorem sz1 : szT Tryz.prog 1 = some 1 := by kernel_rfl
@[simp] theorem co1 : Tryz.prog.cellsOf 1 = 1 := by kernel_rfl
@[simp] theorem ag1 : aggT Tryz.prog 1 = some false := by kernel_rfl
@[simp] theorem zr1 : zeroD Tryz.prog 1 = some [.x .nilFunc] := by kernel_rfl
-- 2 int64
attribute [simp] Tryz.underlying2
@[simp] theorem sz2 : szT Tryz.prog 2 = some 1 := by kernel_rfl
@[simp] theorem co2 : Tryz.prog.cellsOf 2 = 1 := by kernel_rfl
@[simp] theorem ag2 : aggT Tryz.prog 2 = some false := by kernel_rfl
@[simp] theorem zr2 : zeroD Tryz.prog 2 = some [.x (.int .i64 0)] := by kernel_rfl
-- 3 int
attribute [simp] Tryz.underlying3
@[simp] theorem sz3 : szT Tryz.prog 3 = some 1 := by kernel_rfl
@[simp] theorem co3 : Tryz.prog.cellsOf 3 = 1 := by kernel_rfl
@[simp] theorem ag3 : aggT Tryz.prog 3 = some false := by kernel_rfl
@[simp] theorem zr3 : zeroD Tryz.prog 3 = some [.x (.int .i64 0)] := by kernel_rfl
-- 4 bool
attribute [simp] Tryz.underlying4
@[simp] theorem sz4 : szT Tryz.prog 4 = some 1 := by kernel_rfl
@[simp] theorem co4 : Tryz.prog.cellsOf 4 = 1 := by kernel_rfl
@[simp] theorem ag4 : aggT Tryz.prog 4 = some false := by kernel_rfl
@[simp] theorem zr4 : zeroD Tryz.prog 4 = some [.x (.bool false)] := by kernel_rfl
-- 5 uint8
attribute [simp] Tryz.underlying5
@[simp] theorem sz5 : szT Tryz.prog 5 = some 1 := by kernel_rfl
@[simp] theorem co5 : Tryz.prog.cellsOf 5 = 1 := by kernel_rfl
@[simp] theorem ag5 : aggT Tryz.prog 5 = some false := by kernel_rfl
@[simp] theorem zr5 : zeroD Tryz.prog 5 = some [.x (.int .u8 0)] := by kernel_rfl
-- 8 runtime.boundsError
attribute [simp] Tryz.underlying8
@[simp] theorem sz8 : szT Tryz.prog 8 = some 4 := by kernel_rfl
@[simp] theorem co8 : Tryz.prog.cellsOf 8 = 4 := by kernel_rfl
@[simp] theorem ag8 : aggT Tryz.prog 8 = some true := by kernel_rfl
@[simp] theorem zr8 : zeroD Tryz.prog 8 = some [.x (.int .i64 0), .x (.int .i64 0), .x (.bool false), .x (.int .u8 0)] := by kernel_rfl
@[simp] theorem bt8 : buildT Tryz.prog 8 = some ([(0, 1), (1, 1), (2, 1), (3, 1)], [.x (.int .i64 0), .x (.int .i64 0), .x (.bool false), .x (.int .u8 0)]) := by kernel_rfl
@[simp] theorem st8 : Tryz.prog.stoodInHeld 8 = false := by kernel_rfl
@[simp] theorem eg8 : Tryz.prog.eqGuardType Tryz.prog.depth 8 = false := by kernel_rfl
-- 9 string
attribute [simp] Tryz.underlying9
@[simp] theorem sz9 : szT Tryz.prog 9 = some 1 := by kernel_rfl
@[simp] theorem co9 : Tryz.prog.cellsOf 9 = 1 := by kernel_rfl
@[simp] theorem ag9 : aggT Tryz.prog 9 = some false := by kernel_rfl
@[simp] theorem zr9 : zeroD Tryz.prog 9 = some [.x (.string ByteArray.empty)] := by kernel_rfl
-- 10 runtime.errorString
attribute [simp] Tryz.underlying10
@[simp] theorem sz10 : szT Tryz.prog 10 = some 1 := by kernel_rfl
@[simp] theorem co10 : Tryz.prog.cellsOf 10 = 1 := by kernel_rfl
@[simp] theorem ag10 : aggT Tryz.prog 10 = some false := by kernel_rfl
@[simp] theorem zr10 : zeroD Tryz.prog 10 = some [.x (.string ByteArray.empty)] := by kernel_rfl
-- 11 runtime.plainError
attribute [simp] Tryz.underlying11
@[simp] theorem sz11 : szT Tryz.prog 11 = some 1 := by kernel_rfl
@[simp] theorem co11 : Tryz.prog.cellsOf 11 = 1 := by kernel_rfl
@[simp] theorem ag11 : aggT Tryz.prog 11 = some false := by kernel_rfl
@[simp] theorem zr11 : zeroD Tryz.prog 11 = some [.x (.string ByteArray.empty)] := by kernel_rfl
-- 12 uintptr
attribute [simp] Tryz.underlying12
@[simp] theorem sz12 : szT Tryz.prog 12 = some 1 := by kernel_rfl
@[simp] theorem co12 : Tryz.prog.cellsOf 12 = 1 := by kernel_rfl
@[simp] theorem ag12 : aggT Tryz.prog 12 = some false := by kernel_rfl
@[simp] theorem zr12 : zeroD Tryz.prog 12 = some [.x (.int .u64 0)] := by kernel_rfl
-- 23 api.Span
attribute [simp] Tryz.underlying23
@[simp] theorem sz23 : szT Tryz.prog 23 = some 2 := by kernel_rfl
@[simp] theorem co23 : Tryz.prog.cellsOf 23 = 2 := by kernel_rfl
@[simp] theorem ag23 : aggT Tryz.prog 23 = some true := by kernel_rfl
@[simp] theorem zr23 : zeroD Tryz.prog 23 = some [.x (.int .i64 0), .x (.int .i64 0)] := by kernel_rfl
@[simp] theorem bt23 : buildT Tryz.prog 23 = some ([(0, 1), (1, 1)], [.x (.int .i64 0), .x (.int .i64 0)]) := by kernel_rfl
@[simp] theorem st23 : Tryz.prog.stoodInHeld 23 = false := by kernel_rfl
@[simp] theorem eg23 : Tryz.prog.eqGuardType Tryz.prog.depth 23 = false := by kernel_rfl
-- 25 api.Box
attribute [simp] Tryz.underlying25
@[simp] theorem sz25 : szT Tryz.prog 25 = some 6 := by kernel_rfl
@[simp] theorem co25 : Tryz.prog.cellsOf 25 = 6 := by kernel_rfl
@[simp] theorem ag25 : aggT Tryz.prog 25 = some true := by kernel_rfl
@[simp] theorem zr25 : zeroD Tryz.prog 25 = some [.x (.int .i64 0), .x (.int .i64 0), .x (.int .i64 0), .x (.int .i64 0), .x (.int .i64 0), .x (.int .i64 0)] := by kernel_rfl
@[simp] theorem bt25 : buildT Tryz.prog 25 = some ([(0, 2), (2, 2), (4, 2)], [.x (.int .i64 0), .x (.int .i64 0), .x (.int .i64 0), .x (.int .i64 0), .x (.int .i64 0), .x (.int .i64 0)]) := by kernel_rfl
@[simp] theorem st25 : Tryz.prog.stoodInHeld 25 = false := by kernel_rfl
@[simp] theorem eg25 : Tryz.prog.eqGuardType Tryz.prog.depth 25 = false := by kernel_rfl
-- 26 []api.Defect
attribute [simp] Tryz.underlying26
@[simp] theorem sz26 : szT Tryz.prog 26 = some 1 := by kernel_rfl
@[simp] theorem co26 : Tryz.prog.cellsOf 26 = 1 := by kernel_rfl
@[simp] theorem ag26 : aggT Tryz.prog 26 = some false := by kernel_rfl
@[simp] theorem zr26 : zeroD Tryz.prog 26 = some [.emp] := by kernel_rfl
@[simp] theorem mk26 : mkT Tryz.prog 26 = some (67, 7, 56, [.x (.int .i64 0), .x (.int .i64 0), .x (.int .i64 0), .x (.int .i64 0), .x (.int .i64 0), .x (.int .i64 0), .x (.int .i64 0)]) := by kernel_rfl
@[simp] theorem ap26 : appT Tryz.prog 26 = some (67, 7, 56) := by kernel_rfl
-- 28 api.Cell
attribute [simp] Tryz.underlying28
@[simp] theorem sz28 : szT Tryz.prog 28 = some 3 := by kernel_rfl
@[simp] theorem co28 : Tryz.prog.cellsOf 28 = 3 := by kernel_rfl
@[simp] theorem ag28 : aggT Tryz.prog 28 = some true := by kernel_rfl
@[simp] theorem zr28 : zeroD Tryz.prog 28 = some [.x (.int .i64 0), .x (.int .i64 0), .x (.int .i64 0)] := by kernel_rfl
@[simp] theorem bt28 : buildT Tryz.prog 28 = some ([(0, 1), (1, 1), (2, 1)], [.x (.int .i64 0), .x (.int .i64 0), .x (.int .i64 0)]) := by kernel_rfl
@[simp] theorem st28 : Tryz.prog.stoodInHeld 28 = false := by kernel_rfl
@[simp] theorem eg28 : Tryz.prog.eqGuardType Tryz.prog.depth 28 = false := by kernel_rfl
-- 30 api.Board
attribute [simp] Tryz.underlying30
@[simp] theorem sz30 : szT Tryz.prog 30 = some 18 := by kernel_rfl
@[simp] theorem co30 : Tryz.prog.cellsOf 30 = 18 := by kernel_rfl
@[simp] theorem ag30 : aggT Tryz.prog 30 = some true := by kernel_rfl
@[simp] theorem zr30 : zeroD Tryz.prog 30 = some [.x (.string ByteArray.empty), .x (.string ByteArray.empty), .x (.string ByteArray.empty), .x (.int .i64 0), .x (.int .i64 0), .x (.int .i64 0), .x (.int .i64 0), .x (.int .i64 0), .x (.int .i64 0), .x (.int .i64 0), .x (.int .i64 0), .emp, .x (.int .i64 0), .x (.int .i64 0), .x (.int .i64 0), .x (.int .i64 0), .x (.bool false), .x (.int .i64 0)] := by kernel_rfl
@[simp] theorem bt30 : buildT Tryz.prog 30 = some ([(0, 1), (1, 1), (2, 1), (3, 1), (4, 6), (10, 1), (11, 1), (12, 1), (13, 3), (16, 1), (17, 1)], [.x (.string ByteArray.empty), .x (.string ByteArray.empty), .x (.string ByteArray.empty), .x (.int .i64 0), .x (.int .i64 0), .x (.int .i64 0), .x (.int .i64 0), .x (.int .i64 0), .x (.int .i64 0), .x (.int .i64 0), .x (.int .i64 0), .emp, .x (.int .i64 0), .x (.int .i64 0), .x (.int .i64 0), .x (.int .i64 0), .x (.bool false), .x (.int .i64 0)]) := by kernel_rfl
@[simp] theorem st30 : Tryz.prog.stoodInHeld 30 = false := by kernel_rfl
@[simp] theorem eg30 : Tryz.prog.eqGuardType Tryz.prog.depth 30 = false := by kernel_rfl
-- 31 []api.Product
attribute [simp] Tryz.underlying31
@[simp] theorem sz31 : szT Tryz.prog 31 = some 1 := by kernel_rfl
@[simp] theorem co31 : Tryz.prog.cellsOf 31 = 1 := by kernel_rfl
@[simp] theorem ag31 : aggT Tryz.prog 31 = some false := by kernel_rfl
@[simp] theorem zr31 : zeroD Tryz.prog 31 = some [.emp] := by kernel_rfl
@[simp] theorem mk31 : mkT Tryz.prog 31 = some (58, 7, 96, [.x (.string ByteArray.empty), .x (.int .i64 0), .x (.int .i64 0), .x (.int .i64 0), .x (.int .i64 0), .emp, .emp]) := by kernel_rfl
@[simp] theorem ap31 : appT Tryz.prog 31 = some (58, 7, 96) := by kernel_rfl
-- 33 api.Species
attribute [simp] Tryz.underlying33
@[simp] theorem sz33 : szT Tryz.prog 33 = some 13 := by kernel_rfl
@[simp] theorem co33 : Tryz.prog.cellsOf 33 = 13 := by kernel_rfl
@[simp] theorem ag33 : aggT Tryz.prog 33 = some true := by kernel_rfl
@[simp] theorem zr33 : zeroD Tryz.prog 33 = some [.x (.string ByteArray.empty), .x (.int .i64 0), .x (.int .i64 0), .x (.int .i64 0), .x (.int .i64 0), .x (.int .i64 0), .x (.int .i64 0), .x (.int .i64 0), .x (.int .i64 0), .x (.int .i64 0), .x (.int .i64 0), .x (.int .i64 0), .x (.int .i64 0)] := by kernel_rfl
@[simp] theorem bt33 : buildT Tryz.prog 33 = some ([(0, 1), (1, 1), (2, 1), (3, 1), (4, 1), (5, 1), (6, 1), (7, 1), (8, 1), (9, 1), (10, 1), (11, 1), (12, 1)], [.x (.string ByteArray.empty), .x (.int .i64 0), .x (.int .i64 0), .x (.int .i64 0), .x (.int .i64 0), .x (.int .i64 0), .x (.int .i64 0), .x (.int .i64 0), .x (.int .i64 0), .x (.int .i64 0), .x (.int .i64 0), .x (.int .i64 0), .x (.int .i64 0)]) := by kernel_rfl
@[simp] theorem st33 : Tryz.prog.stoodInHeld 33 = false := by kernel_rfl
@[simp] theorem eg33 : Tryz.prog.eqGuardType Tryz.prog.depth 33 = false := by kernel_rfl
-- 35 sawmilllaw42.Given
attribute [simp] Tryz.underlying35
@[simp] theorem sz35 : szT Tryz.prog 35 = some 32 := by kernel_rfl
@[simp] theorem co35 : Tryz.prog.cellsOf 35 = 32 := by kernel_rfl
@[simp] theorem ag35 : aggT Tryz.prog 35 = some true := by kernel_rfl
@[simp] theorem zr35 : zeroD Tryz.prog 35 = some [.x (.string ByteArray.empty), .x (.string ByteArray.empty), .x (.string ByteArray.empty), .x (.int .i64 0), .x (.int .i64 0), .x (.int .i64 0), .x (.int .i64 0), .x (.int .i64 0), .x (.int .i64 0), .x (.int .i64 0), .x (.int .i64 0), .emp, .x (.int .i64 0), .x (.int .i64 0), .x (.int .i64 0), .x (.int .i64 0), .x (.bool false), .x (.int .i64 0), .emp, .x (.string ByteArray.empty), .x (.int .i64 0), .x (.int .i64 0), .x (.int .i64 0), .x (.int .i64 0), .x (.int .i64 0), .x (.int .i64 0), .x (.int .i64 0), .x (.int .i64 0), .x (.int .i64 0), .x (.int .i64 0), .x (.int .i64 0), .x (.int .i64 0)] := by kernel_rfl
@[simp] theorem bt35 : buildT Tryz.prog 35 = some ([(0, 18), (18, 1), (19, 13)], [.x (.string ByteArray.empty), .x (.string ByteArray.empty), .x (.string ByteArray.empty), .x (.int .i64 0), .x (.int .i64 0), .x (.int .i64 0), .x (.int .i64 0), .x (.int .i64 0), .x (.int .i64 0), .x (.int .i64 0), .x (.int .i64 0), .emp, .x (.int .i64 0), .x (.int .i64 0), .x (.int .i64 0), .x (.int .i64 0), .x (.bool false), .x (.int .i64 0), .emp, .x (.string ByteArray.empty), .x (.int .i64 0), .x (.int .i64 0), .x (.int .i64 0), .x (.int .i64 0), .x (.int .i64 0), .x (.int .i64 0), .x (.int .i64 0), .x (.int .i64 0), .x (.int .i64 0), .x (.int .i64 0), .x (.int .i64 0), .x (.int .i64 0)]) := by kernel_rfl
@[simp] theorem st35 : Tryz.prog.stoodInHeld 35 = false := by kernel_rfl
@[simp] theorem eg35 : Tryz.prog.eqGuardType Tryz.prog.depth 35 = false := by kernel_rfl
-- 39 []api.Feature
attribute [simp] Tryz.underlying39
@[simp] theorem sz39 : szT Tryz.prog 39 = some 1 := by kernel_rfl
@[simp] theorem co39 : Tryz.prog.cellsOf 39 = 1 := by kernel_rfl
@[simp] theorem ag39 : aggT Tryz.prog 39 = some false := by kernel_rfl
@[simp] theorem zr39 : zeroD Tryz.prog 39 = some [.emp] := by kernel_rfl
@[simp] theorem mk39 : mkT Tryz.prog 39 = some (51, 2, 24, [.x (.string ByteArray.empty), .x (.int .i64 0)]) := by kernel_rfl
@[simp] theorem ap39 : appT Tryz.prog 39 = some (51, 2, 24) := by kernel_rfl
-- 45 (int, bool)
attribute [simp] Tryz.underlying45
@[simp] theorem sz45 : szT Tryz.prog 45 = some 1 := by kernel_rfl
@[simp] theorem co45 : Tryz.prog.cellsOf 45 = 1 := by kernel_rfl
@[simp] theorem ag45 : aggT Tryz.prog 45 = some false := by kernel_rfl
-- 48 []string
attribute [simp] Tryz.underlying48
@[simp] theorem sz48 : szT Tryz.prog 48 = some 1 := by kernel_rfl
@[simp] theorem co48 : Tryz.prog.cellsOf 48 = 1 := by kernel_rfl
@[simp] theorem ag48 : aggT Tryz.prog 48 = some false := by kernel_rfl
@[simp] theorem zr48 : zeroD Tryz.prog 48 = some [.emp] := by kernel_rfl
@[simp] theorem mk48 : mkT Tryz.prog 48 = some (9, 1, 16, [.x (.string ByteArray.empty)]) := by kernel_rfl
@[simp] theorem ap48 : appT Tryz.prog 48 = some (9, 1, 16) := by kernel_rfl
-- 51 api.Feature
attribute [simp] Tryz.underlying51
@[simp] theorem sz51 : szT Tryz.prog 51 = some 2 := by kernel_rfl
@[simp] theorem co51 : Tryz.prog.cellsOf 51 = 2 := by kernel_rfl
@[simp] theorem ag51 : aggT Tryz.prog 51 = some true := by kernel_rfl
@[simp] theorem zr51 : zeroD Tryz.prog 51 = some [.x (.string ByteArray.empty), .x (.int .i64 0)] := by kernel_rfl
@[simp] theorem bt51 : buildT Tryz.prog 51 = some ([(0, 1), (1, 1)], [.x (.string ByteArray.empty), .x (.int .i64 0)]) := by kernel_rfl
@[simp] theorem st51 : Tryz.prog.stoodInHeld 51 = false := by kernel_rfl
@[simp] theorem eg51 : Tryz.prog.eqGuardType Tryz.prog.depth 51 = false := by kernel_rfl
-- 52 api.Errno
attribute [simp] Tryz.underlying52
@[simp] theorem sz52 : szT Tryz.prog 52 = some 1 := by kernel_rfl
@[simp] theorem co52 : Tryz.prog.cellsOf 52 = 1 := by kernel_rfl
@[simp] theorem ag52 : aggT Tryz.prog 52 = some false := by kernel_rfl
@[simp] theorem zr52 : zeroD Tryz.prog 52 = some [.x (.int .i64 0)] := by kernel_rfl
-- 55 []api.Species
attribute [simp] Tryz.underlying55
@[simp] theorem sz55 : szT Tryz.prog 55 = some 1 := by kernel_rfl
@[simp] theorem co55 : Tryz.prog.cellsOf 55 = 1 := by kernel_rfl
@[simp] theorem ag55 : aggT Tryz.prog 55 = some false := by kernel_rfl
@[simp] theorem zr55 : zeroD Tryz.prog 55 = some [.emp] := by kernel_rfl
@[simp] theorem mk55 : mkT Tryz.prog 55 = some (33, 13, 112, [.x (.string ByteArray.empty), .x (.int .i64 0), .x (.int .i64 0), .x (.int .i64 0), .x (.int .i64 0), .x (.int .i64 0), .x (.int .i64 0), .x (.int .i64 0), .x (.int .i64 0), .x (.int .i64 0), .x (.int .i64 0), .x (.int .i64 0), .x (.int .i64 0)]) := by kernel_rfl
@[simp] theorem ap55 : appT Tryz.prog 55 = some (33, 13, 112) := by kernel_rfl
-- 56 []int
attribute [simp] Tryz.underlying56
@[simp] theorem sz56 : szT Tryz.prog 56 = some 1 := by kernel_rfl
@[simp] theorem co56 : Tryz.prog.cellsOf 56 = 1 := by kernel_rfl
@[simp] theorem ag56 : aggT Tryz.prog 56 = some false := by kernel_rfl
@[simp] theorem zr56 : zeroD Tryz.prog 56 = some [.emp] := by kernel_rfl
@[simp] theorem mk56 : mkT Tryz.prog 56 = some (3, 1, 8, [.x (.int .i64 0)]) := by kernel_rfl
@[simp] theorem ap56 : appT Tryz.prog 56 = some (3, 1, 8) := by kernel_rfl
-- 58 api.Product
attribute [simp] Tryz.underlying58
@[simp] theorem sz58 : szT Tryz.prog 58 = some 7 := by kernel_rfl
@[simp] theorem co58 : Tryz.prog.cellsOf 58 = 7 := by kernel_rfl
@[simp] theorem ag58 : aggT Tryz.prog 58 = some true := by kernel_rfl
@[simp] theorem zr58 : zeroD Tryz.prog 58 = some [.x (.string ByteArray.empty), .x (.int .i64 0), .x (.int .i64 0), .x (.int .i64 0), .x (.int .i64 0), .emp, .emp] := by kernel_rfl
@[simp] theorem bt58 : buildT Tryz.prog 58 = some ([(0, 1), (1, 1), (2, 1), (3, 1), (4, 1), (5, 1), (6, 1)], [.x (.string ByteArray.empty), .x (.int .i64 0), .x (.int .i64 0), .x (.int .i64 0), .x (.int .i64 0), .emp, .emp]) := by kernel_rfl
@[simp] theorem st58 : Tryz.prog.stoodInHeld 58 = false := by kernel_rfl
@[simp] theorem eg58 : Tryz.prog.eqGuardType Tryz.prog.depth 58 = false := by kernel_rfl
-- 67 api.Defect
attribute [simp] Tryz.underlying67
@[simp] theorem sz67 : szT Tryz.prog 67 = some 7 := by kernel_rfl
@[simp] theorem co67 : Tryz.prog.cellsOf 67 = 7 := by kernel_rfl
@[simp] theorem ag67 : aggT Tryz.prog 67 = some true := by kernel_rfl
@[simp] theorem zr67 : zeroD Tryz.prog 67 = some [.x (.int .i64 0), .x (.int .i64 0), .x (.int .i64 0), .x (.int .i64 0), .x (.int .i64 0), .x (.int .i64 0), .x (.int .i64 0)] := by kernel_rfl
@[simp] theorem bt67 : buildT Tryz.prog 67 = some ([(0, 1), (1, 6)], [.x (.int .i64 0), .x (.int .i64 0), .x (.int .i64 0), .x (.int .i64 0), .x (.int .i64 0), .x (.int .i64 0), .x (.int .i64 0)]) := by kernel_rfl
@[simp] theorem st67 : Tryz.prog.stoodInHeld 67 = false := by kernel_rfl
@[simp] theorem eg67 : Tryz.prog.eqGuardType Tryz.prog.depth 67 = false := by kernel_rfl
-- 69 []uint8
attribute [simp] Tryz.underlying69
@[simp] theorem sz69 : szT Tryz.prog 69 = some 1 := by kernel_rfl
@[simp] theorem co69 : Tryz.prog.cellsOf 69 = 1 := by kernel_rfl
@[simp] theorem ag69 : aggT Tryz.prog 69 = some false := by kernel_rfl
@[simp] theorem zr69 : zeroD Tryz.prog 69 = some [.emp] := by kernel_rfl
@[simp] theorem mk69 : mkT Tryz.prog 69 = some (5, 1, 1, [.x (.int .u8 0)]) := by kernel_rfl
@[simp] theorem ap69 : appT Tryz.prog 69 = some (5, 1, 1) := by kernel_rfl
-- 70 func(int)
attribute [simp] Tryz.underlying70
@[simp] theorem sz70 : szT Tryz.prog 70 = some 1 := by kernel_rfl
@[simp] theorem co70 : Tryz.prog.cellsOf 70 = 1 := by kernel_rfl
@[simp] theorem ag70 : aggT Tryz.prog 70 = some false := by kernel_rfl
@[simp] theorem zr70 : zeroD Tryz.prog 70 = some [.x .nilFunc] := by kernel_rfl
-- 81 (int, int)
attribute [simp] Tryz.underlying81
@[simp] theorem sz81 : szT Tryz.prog 81 = some 1 := by kernel_rfl
@[simp] theorem co81 : Tryz.prog.cellsOf 81 = 1 := by kernel_rfl
@[simp] theorem ag81 : aggT Tryz.prog 81 = some false := by kernel_rfl
-- 87 [2]int
attribute [simp] Tryz.underlying87
@[simp] theorem sz87 : szT Tryz.prog 87 = some 2 := by kernel_rfl
@[simp] theorem co87 : Tryz.prog.cellsOf 87 = 2 := by kernel_rfl
@[simp] theorem ag87 : aggT Tryz.prog 87 = some true := by kernel_rfl
@[simp] theorem zr87 : zeroD Tryz.prog 87 = some [.x (.int .i64 0), .x (.int .i64 0)] := by kernel_rfl
@[simp] theorem bt87 : buildT Tryz.prog 87 = some ([(0, 1), (1, 1)], [.x (.int .i64 0), .x (.int .i64 0)]) := by kernel_rfl
@[simp] theorem eg87 : Tryz.prog.eqGuardType Tryz.prog.depth 87 = false := by kernel_rfl
-- 90 (api.Species, bool)
attribute [simp] Tryz.underlying90
@[simp] theorem sz90 : szT Tryz.prog 90 = some 1 := by kernel_rfl
@[simp] theorem co90 : Tryz.prog.cellsOf 90 = 1 := by kernel_rfl
@[simp] theorem ag90 : aggT Tryz.prog 90 = some false := by kernel_rfl
-- 96 (uint8, int, api.Errno)
attribute [simp] Tryz.underlying96
@[simp] theorem sz96 : szT Tryz.prog 96 = some 1 := by kernel_rfl
@[simp] theorem co96 : Tryz.prog.cellsOf 96 = 1 := by kernel_rfl
@[simp] theorem ag96 : aggT Tryz.prog 96 = some false := by kernel_rfl
-- 98 func(uint8) bool
attribute [simp] Tryz.underlying98
@[simp] theorem sz98 : szT Tryz.prog 98 = some 1 := by kernel_rfl
@[simp] theorem co98 : Tryz.prog.cellsOf 98 = 1 := by kernel_rfl
@[simp] theorem ag98 : aggT Tryz.prog 98 = some false := by kernel_rfl
@[simp] theorem zr98 : zeroD Tryz.prog 98 = some [.x .nilFunc] := by kernel_rfl
-- 103 [2]api.Span
attribute [simp] Tryz.underlying103
@[simp] theorem sz103 : szT Tryz.prog 103 = some 4 := by kernel_rfl
@[simp] theorem co103 : Tryz.prog.cellsOf 103 = 4 := by kernel_rfl
@[simp] theorem ag103 : aggT Tryz.prog 103 = some true := by kernel_rfl
@[simp] theorem zr103 : zeroD Tryz.prog 103 = some [.x (.int .i64 0), .x (.int .i64 0), .x (.int .i64 0), .x (.int .i64 0)] := by kernel_rfl
@[simp] theorem bt103 : buildT Tryz.prog 103 = some ([(0, 2), (2, 2)], [.x (.int .i64 0), .x (.int .i64 0), .x (.int .i64 0), .x (.int .i64 0)]) := by kernel_rfl
-- 107 [12][2]int
attribute [simp] Tryz.underlying107
@[simp] theorem sz107 : szT Tryz.prog 107 = some 24 := by kernel_rfl
@[simp] theorem co107 : Tryz.prog.cellsOf 107 = 24 := by kernel_rfl
@[simp] theorem ag107 : aggT Tryz.prog 107 = some true := by kernel_rfl
@[simp] theorem zr107 : zeroD Tryz.prog 107 = some [.x (.int .i64 0), .x (.int .i64 0), .x (.int .i64 0), .x (.int .i64 0), .x (.int .i64 0), .x (.int .i64 0), .x (.int .i64 0), .x (.int .i64 0), .x (.int .i64 0), .x (.int .i64 0), .x (.int .i64 0), .x (.int .i64 0), .x (.int .i64 0), .x (.int .i64 0), .x (.int .i64 0), .x (.int .i64 0), .x (.int .i64 0), .x (.int .i64 0), .x (.int .i64 0), .x (.int .i64 0), .x (.int .i64 0), .x (.int .i64 0), .x (.int .i64 0), .x (.int .i64 0)] := by kernel_rfl
@[simp] theorem bt107 : buildT Tryz.prog 107 = some ([(0, 2), (2, 2), (4, 2), (6, 2), (8, 2), (10, 2), (12, 2), (14, 2), (16, 2), (18, 2), (20, 2), (22, 2)], [.x (.int .i64 0), .x (.int .i64 0), .x (.int .i64 0), .x (.int .i64 0), .x (.int .i64 0), .x (.int .i64 0), .x (.int .i64 0), .x (.int .i64 0), .x (.int .i64 0), .x (.int .i64 0), .x (.int .i64 0), .x (.int .i64 0), .x (.int .i64 0), .x (.int .i64 0), .x (.int .i64 0), .x (.int .i64 0), .x (.int .i64 0), .x (.int .i64 0), .x (.int .i64 0), .x (.int .i64 0), .x (.int .i64 0), .x (.int .i64 0), .x (.int .i64 0), .x (.int .i64 0)]) := by kernel_rfl
-- 108 [12]int
attribute [simp] Tryz.underlying108
@[simp] theorem sz108 : szT Tryz.prog 108 = some 12 := by kernel_rfl
@[simp] theorem co108 : Tryz.prog.cellsOf 108 = 12 := by kernel_rfl
@[simp] theorem ag108 : aggT Tryz.prog 108 = some true := by kernel_rfl
@[simp] theorem zr108 : zeroD Tryz.prog 108 = some [.x (.int .i64 0), .x (.int .i64 0), .x (.int .i64 0), .x (.int .i64 0), .x (.int .i64 0), .x (.int .i64 0), .x (.int .i64 0), .x (.int .i64 0), .x (.int .i64 0), .x (.int .i64 0), .x (.int .i64 0), .x (.int .i64 0)] := by kernel_rfl
@[simp] theorem bt108 : buildT Tryz.prog 108 = some ([(0, 1), (1, 1), (2, 1), (3, 1), (4, 1), (5, 1), (6, 1), (7, 1), (8, 1), (9, 1), (10, 1), (11, 1)], [.x (.int .i64 0), .x (.int .i64 0), .x (.int .i64 0), .x (.int .i64 0), .x (.int .i64 0), .x (.int .i64 0), .x (.int .i64 0), .x (.int .i64 0), .x (.int .i64 0), .x (.int .i64 0), .x (.int .i64 0), .x (.int .i64 0)]) := by kernel_rfl
@[simp] theorem eg108 : Tryz.prog.eqGuardType Tryz.prog.depth 108 = false := by kernel_rfl
-- 111 []ident.part
attribute [simp] Tryz.underlying111
@[simp] theorem sz111 : szT Tryz.prog 111 = some 1 := by kernel_rfl
@[simp] theorem co111 : Tryz.prog.cellsOf 111 = 1 := by kernel_rfl
@[simp] theorem ag111 : aggT Tryz.prog 111 = some false := by kernel_rfl
@[simp] theorem zr111 : zeroD Tryz.prog 111 = some [.emp] := by kernel_rfl
@[simp] theorem mk111 : mkT Tryz.prog 111 = some (114, 4, 32, [.x (.int .i64 0), .x (.int .i64 0), .x .nilFunc, .x (.int .i64 0)]) := by kernel_rfl
@[simp] theorem ap111 : appT Tryz.prog 111 = some (114, 4, 32) := by kernel_rfl
-- 114 ident.part
attribute [simp] Tryz.underlying114
@[simp] theorem sz114 : szT Tryz.prog 114 = some 4 := by kernel_rfl
@[simp] theorem co114 : Tryz.prog.cellsOf 114 = 4 := by kernel_rfl
@[simp] theorem ag114 : aggT Tryz.prog 114 = some true := by kernel_rfl
@[simp] theorem zr114 : zeroD Tryz.prog 114 = some [.x (.int .i64 0), .x (.int .i64 0), .x .nilFunc, .x (.int .i64 0)] := by kernel_rfl
@[simp] theorem bt114 : buildT Tryz.prog 114 = some ([(0, 1), (1, 1), (2, 1), (3, 1)], [.x (.int .i64 0), .x (.int .i64 0), .x .nilFunc, .x (.int .i64 0)]) := by kernel_rfl
@[simp] theorem st114 : Tryz.prog.stoodInHeld 114 = false := by kernel_rfl
@[simp] theorem eg114 : Tryz.prog.eqGuardType Tryz.prog.depth 114 = false := by kernel_rfl
-- 116 uint64
attribute [simp] Tryz.underlying116
@[simp] theorem sz116 : szT Tryz.prog 116 = some 1 := by kernel_rfl
@[simp] theorem co116 : Tryz.prog.cellsOf 116 = 1 := by kernel_rfl
@[simp] theorem ag116 : aggT Tryz.prog 116 = some false := by kernel_rfl
@[simp] theorem zr116 : zeroD Tryz.prog 116 = some [.x (.int .u64 0)] := by kernel_rfl
-- 125 uint32
attribute [simp] Tryz.underlying125
@[simp] theorem sz125 : szT Tryz.prog 125 = some 1 := by kernel_rfl
@[simp] theorem co125 : Tryz.prog.cellsOf 125 = 1 := by kernel_rfl
@[simp] theorem ag125 : aggT Tryz.prog 125 = some false := by kernel_rfl
@[simp] theorem zr125 : zeroD Tryz.prog 125 = some [.x (.int .u32 0)] := by kernel_rfl
-- 128 func(unsafe.Pointer, unsafe.Pointer) bool
attribute [simp] Tryz.underlying128
@[simp] theorem sz128 : szT Tryz.prog 128 = some 1 := by kernel_rfl
@[simp] theorem co128 : Tryz.prog.cellsOf 128 = 1 := by kernel_rfl
@[simp] theorem ag128 : aggT Tryz.prog 128 = some false := by kernel_rfl
@[simp] theorem zr128 : zeroD Tryz.prog 128 = some [.x .nilFunc] := by kernel_rfl
-- 129 *uint8
attribute [simp] Tryz.underlying129
@[simp] theorem sz129 : szT Tryz.prog 129 = some 1 := by kernel_rfl
@[simp] theorem co129 : Tryz.prog.cellsOf 129 = 1 := by kernel_rfl
@[simp] theorem ag129 : aggT Tryz.prog 129 = some false := by kernel_rfl
@[simp] theorem zr129 : zeroD Tryz.prog 129 = some [.x (.pointer none)] := by kernel_rfl
-- sawmill/sawmilllaw19.Short: loops [2]; state: params 0..0, then [2, 3]
attribute [simp] Tryz.f9
noncomputable def an_law19_Short : Ann := ⟨[0, 2, 3], [7, 38], [], [(2, [0, 3])], [(0, []), (1, [0, 3])], some [2], [], [], [(39, 0, 51, 2)], []⟩
@[simp] theorem an_law19_Short_draws : an_law19_Short.draws = [] := rfl
@[simp] theorem an_law19_Short_exits : an_law19_Short.exits = [(0, []), (1, [0, 3])] := rfl
@[simp] theorem an_law19_Short_rets : an_law19_Short.rets = some [2] := rfl
@[simp] theorem an_law19_Short_keep : an_law19_Short.keep = [0, 2, 3] := rfl
@[simp] theorem an_law19_Short_cond : an_law19_Short.cond = [7, 38] := rfl
@[simp] theorem an_law19_Short_rows : an_law19_Short.rows = [] := rfl
@[simp] theorem an_law19_Short_loops : an_law19_Short.loops = [(2, [0, 3])] := rfl
@[simp] theorem an_law19_Short_ecalls : an_law19_Short.ecalls = [] := rfl
@[simp] theorem an_law19_Short_crows : an_law19_Short.crows = [(39, 0, 51, 2)] := rfl
@[simp] theorem an_law19_Short_tails : an_law19_Short.tails = [] := rfl
@[simp] noncomputable def cl_law19_Short : List (Nat × (List D → Option D)) := []
@[simp] noncomputable def ce_law19_Short : List (Nat × (List (Nat × O) → List D → Option (D × List (Nat × O)))) := []
noncomputable def c_law19_Short : CT := ⟨callOf (cl_law19_Short ), callOfE ce_law19_Short, gl⟩
@[simp] theorem c_law19_Short_p (f : FuncId) (ds : List D) : c_law19_Short.p f ds = callOf (cl_law19_Short ) f ds := Eq.trans rfl rfl
@[simp] theorem c_law19_Short_e (f : FuncId) (hs : List (Nat × O)) (ds : List D) : c_law19_Short.e f hs ds = callOfE ce_law19_Short f hs ds := Eq.trans rfl rfl
@[simp] theorem c_law19_Short_g (g : Nat) : c_law19_Short.g g = gl g := Eq.trans rfl rfl
noncomputable def L_law19_Short (i n : Nat) (s : St) : Option (E × St) := atN Tryz.prog c_law19_Short an_law19_Short 39 (bodyOf Tryz.f9) i n s
noncomputable def H_law19_Short (n i : Nat) (s : St) : Option (E × St) := atH Tryz.prog c_law19_Short an_law19_Short 39 (bodyOf Tryz.f9) n i s
@[simp] theorem H_law19_Short_eq (n i : Nat) (s : St) : H_law19_Short n i s = L_law19_Short i n (headOf (an_law19_Short.loops.lookup i) s) := rfl
noncomputable def R_law19_Short (i : Nat) (s : St) : Option (E × St) := stepL Tryz.prog c_law19_Short an_law19_Short 39 (bodyOf Tryz.f9) i s
theorem lok_law19_Short : okLoops (bodyOf Tryz.f9) = true := by kernel_rfl
theorem L_law19_Short_zero (i : Nat) (s : St) : L_law19_Short i 0 s = none := rfl
theorem L_law19_Short_succ (i n : Nat) (s : St) : L_law19_Short i (n + 1) s = andThen (R_law19_Short i s) (H_law19_Short n i) := atN_succ lok_law19_Short i n s
theorem R_law19_Short_eq (i : Nat) (s : St) : R_law19_Short i s = runS Tryz.prog c_law19_Short (H_law19_Short bigL) an_law19_Short 39 (loopAt (bodyOf Tryz.f9) i) s := rfl
noncomputable def F_law19_Short (ds : List D) : Option D := runF Tryz.prog c_law19_Short an_law19_Short 39 (bodyOf Tryz.f9) [.tmp 2] ds
theorem F_law19_Short_eq (ds : List D) : F_law19_Short ds = runG Tryz.prog c_law19_Short (H_law19_Short bigL) an_law19_Short 39 (bodyOf Tryz.f9) [.tmp 2] ds := runG_eq lok_law19_Short _ ds
theorem C_law19_Short (ds : List D) (r : D) (h : F_law19_Short ds = some r) : Contract Tryz.prog gl 9 ds r := contract_of mix Tryz.func9 rfl (by kernel_rfl) (by kernel_rfl) (by decide) (call := c_law19_Short) ⟨callOf_ok cl_law19_Short trivial, callOfE_ok ce_law19_Short trivial⟩ h
-- sawmill/sawmilllaw42.short: loops []; state: params 0..0, then [1, 2]
attribute [simp] Tryz.f4
noncomputable def an_law42_short : Ann := ⟨[1, 2], [], [], [], [], some [2], [], [], [(39, 0, 51, 2)], []⟩
@[simp] theorem an_law42_short_draws : an_law42_short.draws = [] := rfl
@[simp] theorem an_law42_short_exits : an_law42_short.exits = [] := rfl
@[simp] theorem an_law42_short_rets : an_law42_short.rets = some [2] := rfl
@[simp] theorem an_law42_short_keep : an_law42_short.keep = [1, 2] := rfl
@[simp] theorem an_law42_short_cond : an_law42_short.cond = [] := rfl
@[simp] theorem an_law42_short_rows : an_law42_short.rows = [] := rfl
@[simp] theorem an_law42_short_loops : an_law42_short.loops = [] := rfl
@[simp] theorem an_law42_short_ecalls : an_law42_short.ecalls = [] := rfl
@[simp] theorem an_law42_short_crows : an_law42_short.crows = [(39, 0, 51, 2)] := rfl
@[simp] theorem an_law42_short_tails : an_law42_short.tails = [] := rfl
@[simp] noncomputable def cl_law42_short : List (Nat × (List D → Option D)) := [(9, F_law19_Short)]
@[simp] noncomputable def ce_law42_short : List (Nat × (List (Nat × O) → List D → Option (D × List (Nat × O)))) := []
noncomputable def c_law42_short : CT := ⟨callOf (cl_law42_short ), callOfE ce_law42_short, gl⟩
@[simp] theorem c_law42_short_p (f : FuncId) (ds : List D) : c_law42_short.p f ds = callOf (cl_law42_short ) f ds := Eq.trans rfl rfl
@[simp] theorem c_law42_short_e (f : FuncId) (hs : List (Nat × O)) (ds : List D) : c_law42_short.e f hs ds = callOfE ce_law42_short f hs ds := Eq.trans rfl rfl
@[simp] theorem c_law42_short_g (g : Nat) : c_law42_short.g g = gl g := Eq.trans rfl rfl
noncomputable def L_law42_short (i n : Nat) (s : St) : Option (E × St) := atN Tryz.prog c_law42_short an_law42_short 41 (bodyOf Tryz.f4) i n s
noncomputable def H_law42_short (n i : Nat) (s : St) : Option (E × St) := atH Tryz.prog c_law42_short an_law42_short 41 (bodyOf Tryz.f4) n i s
@[simp] theorem H_law42_short_eq (n i : Nat) (s : St) : H_law42_short n i s = L_law42_short i n (headOf (an_law42_short.loops.lookup i) s) := rfl
noncomputable def R_law42_short (i : Nat) (s : St) : Option (E × St) := stepL Tryz.prog c_law42_short an_law42_short 41 (bodyOf Tryz.f4) i s
theorem lok_law42_short : okLoops (bodyOf Tryz.f4) = true := by kernel_rfl
noncomputable def F_law42_short (ds : List D) : Option D := runF Tryz.prog c_law42_short an_law42_short 41 (bodyOf Tryz.f4) [.tmp 2] ds
theorem F_law42_short_eq (ds : List D) : F_law42_short ds = runG Tryz.prog c_law42_short (H_law42_short bigL) an_law42_short 41 (bodyOf Tryz.f4) [.tmp 2] ds := runG_eq lok_law42_short _ ds
theorem C_law42_short (ds : List D) (r : D) (h : F_law42_short ds = some r) : Contract Tryz.prog gl 4 ds r := contract_of mix Tryz.func4 rfl (by kernel_rfl) (by kernel_rfl) (by decide) (call := c_law42_short) ⟨callOf_ok cl_law42_short ⟨C_law19_Short, trivial⟩, callOfE_ok ce_law42_short trivial⟩ h
-- sawmill/sawmilllaw42.box: loops []; state: params 0..1, then [4]
attribute [simp] Tryz.f28
noncomputable def an_law42_box : Ann := ⟨[4], [], [], [], [], some [4], [], [], [(39, 0, 51, 2)], []⟩
@[simp] theorem an_law42_box_draws : an_law42_box.draws = [] := rfl
@[simp] theorem an_law42_box_exits : an_law42_box.exits = [] := rfl
@[simp] theorem an_law42_box_rets : an_law42_box.rets = some [4] := rfl
@[simp] theorem an_law42_box_keep : an_law42_box.keep = [4] := rfl
@[simp] theorem an_law42_box_cond : an_law42_box.cond = [] := rfl
@[simp] theorem an_law42_box_rows : an_law42_box.rows = [] := rfl
@[simp] theorem an_law42_box_loops : an_law42_box.loops = [] := rfl
@[simp] theorem an_law42_box_ecalls : an_law42_box.ecalls = [] := rfl
@[simp] theorem an_law42_box_crows : an_law42_box.crows = [(39, 0, 51, 2)] := rfl
@[simp] theorem an_law42_box_tails : an_law42_box.tails = [] := rfl
@[simp] noncomputable def cl_law42_box : List (Nat × (List D → Option D)) := []
@[simp] noncomputable def ce_law42_box : List (Nat × (List (Nat × O) → List D → Option (D × List (Nat × O)))) := []
noncomputable def c_law42_box : CT := ⟨callOf (cl_law42_box ), callOfE ce_law42_box, gl⟩
@[simp] theorem c_law42_box_p (f : FuncId) (ds : List D) : c_law42_box.p f ds = callOf (cl_law42_box ) f ds := Eq.trans rfl rfl
@[simp] theorem c_law42_box_e (f : FuncId) (hs : List (Nat × O)) (ds : List D) : c_law42_box.e f hs ds = callOfE ce_law42_box f hs ds := Eq.trans rfl rfl
@[simp] theorem c_law42_box_g (g : Nat) : c_law42_box.g g = gl g := Eq.trans rfl rfl
noncomputable def L_law42_box (i n : Nat) (s : St) : Option (E × St) := atN Tryz.prog c_law42_box an_law42_box 15 (bodyOf Tryz.f28) i n s
noncomputable def H_law42_box (n i : Nat) (s : St) : Option (E × St) := atH Tryz.prog c_law42_box an_law42_box 15 (bodyOf Tryz.f28) n i s
@[simp] theorem H_law42_box_eq (n i : Nat) (s : St) : H_law42_box n i s = L_law42_box i n (headOf (an_law42_box.loops.lookup i) s) := rfl
noncomputable def R_law42_box (i : Nat) (s : St) : Option (E × St) := stepL Tryz.prog c_law42_box an_law42_box 15 (bodyOf Tryz.f28) i s
theorem lok_law42_box : okLoops (bodyOf Tryz.f28) = true := by kernel_rfl
noncomputable def F_law42_box (ds : List D) : Option D := runF Tryz.prog c_law42_box an_law42_box 15 (bodyOf Tryz.f28) [.cell 4 25] ds
theorem F_law42_box_eq (ds : List D) : F_law42_box ds = runG Tryz.prog c_law42_box (H_law42_box bigL) an_law42_box 15 (bodyOf Tryz.f28) [.cell 4 25] ds := runG_eq lok_law42_box _ ds
theorem C_law42_box (ds : List D) (r : D) (h : F_law42_box ds = some r) : Contract Tryz.prog gl 28 ds r := contract_of mix Tryz.func28 rfl (by kernel_rfl) (by kernel_rfl) (by decide) (call := c_law42_box) ⟨callOf_ok cl_law42_box trivial, callOfE_ok ce_law42_box trivial⟩ h
-- sawmill/sawmilllaw42.sample: loops []; state: params 0..-1, then [0, 1, 2, 3]
attribute [simp] Tryz.f10
noncomputable def an_law42_sample : Ann := ⟨[0, 1, 2, 3], [], [], [], [], some [0], [], [], [(39, 0, 51, 2)], []⟩
@[simp] theorem an_law42_sample_draws : an_law42_sample.draws = [] := rfl
@[simp] theorem an_law42_sample_exits : an_law42_sample.exits = [] := rfl
@[simp] theorem an_law42_sample_rets : an_law42_sample.rets = some [0] := rfl
@[simp] theorem an_law42_sample_keep : an_law42_sample.keep = [0, 1, 2, 3] := rfl
@[simp] theorem an_law42_sample_cond : an_law42_sample.cond = [] := rfl
@[simp] theorem an_law42_sample_rows : an_law42_sample.rows = [] := rfl
@[simp] theorem an_law42_sample_loops : an_law42_sample.loops = [] := rfl
@[simp] theorem an_law42_sample_ecalls : an_law42_sample.ecalls = [] := rfl
@[simp] theorem an_law42_sample_crows : an_law42_sample.crows = [(39, 0, 51, 2)] := rfl
@[simp] theorem an_law42_sample_tails : an_law42_sample.tails = [] := rfl
@[simp] noncomputable def cl_law42_sample : List (Nat × (List D → Option D)) := [(28, F_law42_box)]
@[simp] noncomputable def ce_law42_sample : List (Nat × (List (Nat × O) → List D → Option (D × List (Nat × O)))) := []
noncomputable def c_law42_sample : CT := ⟨callOf (cl_law42_sample ), callOfE ce_law42_sample, gl⟩
@[simp] theorem c_law42_sample_p (f : FuncId) (ds : List D) : c_law42_sample.p f ds = callOf (cl_law42_sample ) f ds := Eq.trans rfl rfl
@[simp] theorem c_law42_sample_e (f : FuncId) (hs : List (Nat × O)) (ds : List D) : c_law42_sample.e f hs ds = callOfE ce_law42_sample f hs ds := Eq.trans rfl rfl
@[simp] theorem c_law42_sample_g (g : Nat) : c_law42_sample.g g = gl g := Eq.trans rfl rfl
noncomputable def L_law42_sample (i n : Nat) (s : St) : Option (E × St) := atN Tryz.prog c_law42_sample an_law42_sample 27 (bodyOf Tryz.f10) i n s
noncomputable def H_law42_sample (n i : Nat) (s : St) : Option (E × St) := atH Tryz.prog c_law42_sample an_law42_sample 27 (bodyOf Tryz.f10) n i s
@[simp] theorem H_law42_sample_eq (n i : Nat) (s : St) : H_law42_sample n i s = L_law42_sample i n (headOf (an_law42_sample.loops.lookup i) s) := rfl
noncomputable def R_law42_sample (i : Nat) (s : St) : Option (E × St) := stepL Tryz.prog c_law42_sample an_law42_sample 27 (bodyOf Tryz.f10) i s
theorem lok_law42_sample : okLoops (bodyOf Tryz.f10) = true := by kernel_rfl
noncomputable def F_law42_sample (ds : List D) : Option D := runF Tryz.prog c_law42_sample an_law42_sample 27 (bodyOf Tryz.f10) [.cell 0 35] ds
theorem F_law42_sample_eq (ds : List D) : F_law42_sample ds = runG Tryz.prog c_law42_sample (H_law42_sample bigL) an_law42_sample 27 (bodyOf Tryz.f10) [.cell 0 35] ds := runG_eq lok_law42_sample _ ds
theorem C_law42_sample (ds : List D) (r : D) (h : F_law42_sample ds = some r) : Contract Tryz.prog gl 10 ds r := contract_of mix Tryz.func10 rfl (by kernel_rfl) (by kernel_rfl) (by decide) (call := c_law42_sample) ⟨callOf_ok cl_law42_sample ⟨C_law42_box, trivial⟩, callOfE_ok ce_law42_sample trivial⟩ h
-- sawmill/ident.isSmall: loops []; state: params 0..0, then [2]
attribute [simp] Tryz.f95
noncomputable def an_ident_isSmall : Ann := ⟨[2], [], [], [], [], some [2], [], [], [(39, 0, 51, 2)], []⟩
@[simp] theorem an_ident_isSmall_draws : an_ident_isSmall.draws = [] := rfl
@[simp] theorem an_ident_isSmall_exits : an_ident_isSmall.exits = [] := rfl
@[simp] theorem an_ident_isSmall_rets : an_ident_isSmall.rets = some [2] := rfl
@[simp] theorem an_ident_isSmall_keep : an_ident_isSmall.keep = [2] := rfl
@[simp] theorem an_ident_isSmall_cond : an_ident_isSmall.cond = [] := rfl
@[simp] theorem an_ident_isSmall_rows : an_ident_isSmall.rows = [] := rfl
@[simp] theorem an_ident_isSmall_loops : an_ident_isSmall.loops = [] := rfl
@[simp] theorem an_ident_isSmall_ecalls : an_ident_isSmall.ecalls = [] := rfl
@[simp] theorem an_ident_isSmall_crows : an_ident_isSmall.crows = [(39, 0, 51, 2)] := rfl
@[simp] theorem an_ident_isSmall_tails : an_ident_isSmall.tails = [] := rfl
@[simp] noncomputable def cl_ident_isSmall : List (Nat × (List D → Option D)) := []
@[simp] noncomputable def ce_ident_isSmall : List (Nat × (List (Nat × O) → List D → Option (D × List (Nat × O)))) := []
noncomputable def c_ident_isSmall : CT := ⟨callOf (cl_ident_isSmall ), callOfE ce_ident_isSmall, gl⟩
@[simp] theorem c_ident_isSmall_p (f : FuncId) (ds : List D) : c_ident_isSmall.p f ds = callOf (cl_ident_isSmall ) f ds := Eq.trans rfl rfl
@[simp] theorem c_ident_isSmall_e (f : FuncId) (hs : List (Nat × O)) (ds : List D) : c_ident_isSmall.e f hs ds = callOfE ce_ident_isSmall f hs ds := Eq.trans rfl rfl
@[simp] theorem c_ident_isSmall_g (g : Nat) : c_ident_isSmall.g g = gl g := Eq.trans rfl rfl
noncomputable def L_ident_isSmall (i n : Nat) (s : St) : Option (E × St) := atN Tryz.prog c_ident_isSmall an_ident_isSmall 9 (bodyOf Tryz.f95) i n s
noncomputable def H_ident_isSmall (n i : Nat) (s : St) : Option (E × St) := atH Tryz.prog c_ident_isSmall an_ident_isSmall 9 (bodyOf Tryz.f95) n i s
@[simp] theorem H_ident_isSmall_eq (n i : Nat) (s : St) : H_ident_isSmall n i s = L_ident_isSmall i n (headOf (an_ident_isSmall.loops.lookup i) s) := rfl
noncomputable def R_ident_isSmall (i : Nat) (s : St) : Option (E × St) := stepL Tryz.prog c_ident_isSmall an_ident_isSmall 9 (bodyOf Tryz.f95) i s
theorem lok_ident_isSmall : okLoops (bodyOf Tryz.f95) = true := by kernel_rfl
noncomputable def F_ident_isSmall (ds : List D) : Option D := runF Tryz.prog c_ident_isSmall an_ident_isSmall 9 (bodyOf Tryz.f95) [.tmp 2] ds
theorem F_ident_isSmall_eq (ds : List D) : F_ident_isSmall ds = runG Tryz.prog c_ident_isSmall (H_ident_isSmall bigL) an_ident_isSmall 9 (bodyOf Tryz.f95) [.tmp 2] ds := runG_eq lok_ident_isSmall _ ds
theorem C_ident_isSmall (ds : List D) (r : D) (h : F_ident_isSmall ds = some r) : Contract Tryz.prog gl 95 ds r := contract_of mix Tryz.func95 rfl (by kernel_rfl) (by kernel_rfl) (by decide) (call := c_ident_isSmall) ⟨callOf_ok cl_ident_isSmall trivial, callOfE_ok ce_ident_isSmall trivial⟩ h
-- sawmill/ident.isDigit: loops []; state: params 0..0, then [2]
attribute [simp] Tryz.f96
noncomputable def an_ident_isDigit : Ann := ⟨[2], [], [], [], [], some [2], [], [], [(39, 0, 51, 2)], []⟩
@[simp] theorem an_ident_isDigit_draws : an_ident_isDigit.draws = [] := rfl
@[simp] theorem an_ident_isDigit_exits : an_ident_isDigit.exits = [] := rfl
@[simp] theorem an_ident_isDigit_rets : an_ident_isDigit.rets = some [2] := rfl
@[simp] theorem an_ident_isDigit_keep : an_ident_isDigit.keep = [2] := rfl
@[simp] theorem an_ident_isDigit_cond : an_ident_isDigit.cond = [] := rfl
@[simp] theorem an_ident_isDigit_rows : an_ident_isDigit.rows = [] := rfl
@[simp] theorem an_ident_isDigit_loops : an_ident_isDigit.loops = [] := rfl
@[simp] theorem an_ident_isDigit_ecalls : an_ident_isDigit.ecalls = [] := rfl
@[simp] theorem an_ident_isDigit_crows : an_ident_isDigit.crows = [(39, 0, 51, 2)] := rfl
@[simp] theorem an_ident_isDigit_tails : an_ident_isDigit.tails = [] := rfl
@[simp] noncomputable def cl_ident_isDigit : List (Nat × (List D → Option D)) := []
@[simp] noncomputable def ce_ident_isDigit : List (Nat × (List (Nat × O) → List D → Option (D × List (Nat × O)))) := []
noncomputable def c_ident_isDigit : CT := ⟨callOf (cl_ident_isDigit ), callOfE ce_ident_isDigit, gl⟩
@[simp] theorem c_ident_isDigit_p (f : FuncId) (ds : List D) : c_ident_isDigit.p f ds = callOf (cl_ident_isDigit ) f ds := Eq.trans rfl rfl
@[simp] theorem c_ident_isDigit_e (f : FuncId) (hs : List (Nat × O)) (ds : List D) : c_ident_isDigit.e f hs ds = callOfE ce_ident_isDigit f hs ds := Eq.trans rfl rfl
@[simp] theorem c_ident_isDigit_g (g : Nat) : c_ident_isDigit.g g = gl g := Eq.trans rfl rfl
noncomputable def L_ident_isDigit (i n : Nat) (s : St) : Option (E × St) := atN Tryz.prog c_ident_isDigit an_ident_isDigit 9 (bodyOf Tryz.f96) i n s
noncomputable def H_ident_isDigit (n i : Nat) (s : St) : Option (E × St) := atH Tryz.prog c_ident_isDigit an_ident_isDigit 9 (bodyOf Tryz.f96) n i s
@[simp] theorem H_ident_isDigit_eq (n i : Nat) (s : St) : H_ident_isDigit n i s = L_ident_isDigit i n (headOf (an_ident_isDigit.loops.lookup i) s) := rfl
noncomputable def R_ident_isDigit (i : Nat) (s : St) : Option (E × St) := stepL Tryz.prog c_ident_isDigit an_ident_isDigit 9 (bodyOf Tryz.f96) i s
theorem lok_ident_isDigit : okLoops (bodyOf Tryz.f96) = true := by kernel_rfl
noncomputable def F_ident_isDigit (ds : List D) : Option D := runF Tryz.prog c_ident_isDigit an_ident_isDigit 9 (bodyOf Tryz.f96) [.tmp 2] ds
theorem F_ident_isDigit_eq (ds : List D) : F_ident_isDigit ds = runG Tryz.prog c_ident_isDigit (H_ident_isDigit bigL) an_ident_isDigit 9 (bodyOf Tryz.f96) [.tmp 2] ds := runG_eq lok_ident_isDigit _ ds
theorem C_ident_isDigit (ds : List D) (r : D) (h : F_ident_isDigit ds = some r) : Contract Tryz.prog gl 96 ds r := contract_of mix Tryz.func96 rfl (by kernel_rfl) (by kernel_rfl) (by decide) (call := c_ident_isDigit) ⟨callOf_ok cl_ident_isDigit trivial, callOfE_ok ce_ident_isDigit trivial⟩ h
-- sawmill/ident.IsName: loops [4]; state: params 0..0, then [2, 3, 4]
attribute [simp] Tryz.f60
noncomputable def an_ident_IsName : Ann := ⟨[0, 2, 3, 4], [18, 22, 39], [], [(4, [0, 3])], [(0, []), (1, [0, 3])], some [2], [], [], [(39, 0, 51, 2)], []⟩
@[simp] theorem an_ident_IsName_draws : an_ident_IsName.draws = [] := rfl
@[simp] theorem an_ident_IsName_exits : an_ident_IsName.exits = [(0, []), (1, [0, 3])] := rfl
@[simp] theorem an_ident_IsName_rets : an_ident_IsName.rets = some [2] := rfl
@[simp] theorem an_ident_IsName_keep : an_ident_IsName.keep = [0, 2, 3, 4] := rfl
@[simp] theorem an_ident_IsName_cond : an_ident_IsName.cond = [18, 22, 39] := rfl
@[simp] theorem an_ident_IsName_rows : an_ident_IsName.rows = [] := rfl
@[simp] theorem an_ident_IsName_loops : an_ident_IsName.loops = [(4, [0, 3])] := rfl
@[simp] theorem an_ident_IsName_ecalls : an_ident_IsName.ecalls = [] := rfl
@[simp] theorem an_ident_IsName_crows : an_ident_IsName.crows = [(39, 0, 51, 2)] := rfl
@[simp] theorem an_ident_IsName_tails : an_ident_IsName.tails = [] := rfl
@[simp] noncomputable def cl_ident_IsName : List (Nat × (List D → Option D)) := [(95, F_ident_isSmall), (96, F_ident_isDigit)]
@[simp] noncomputable def ce_ident_IsName : List (Nat × (List (Nat × O) → List D → Option (D × List (Nat × O)))) := []
noncomputable def c_ident_IsName : CT := ⟨callOf (cl_ident_IsName ), callOfE ce_ident_IsName, gl⟩
@[simp] theorem c_ident_IsName_p (f : FuncId) (ds : List D) : c_ident_IsName.p f ds = callOf (cl_ident_IsName ) f ds := Eq.trans rfl rfl
@[simp] theorem c_ident_IsName_e (f : FuncId) (hs : List (Nat × O)) (ds : List D) : c_ident_IsName.e f hs ds = callOfE ce_ident_IsName f hs ds := Eq.trans rfl rfl
@[simp] theorem c_ident_IsName_g (g : Nat) : c_ident_IsName.g g = gl g := Eq.trans rfl rfl
noncomputable def L_ident_IsName (i n : Nat) (s : St) : Option (E × St) := atN Tryz.prog c_ident_IsName an_ident_IsName 40 (bodyOf Tryz.f60) i n s
noncomputable def H_ident_IsName (n i : Nat) (s : St) : Option (E × St) := atH Tryz.prog c_ident_IsName an_ident_IsName 40 (bodyOf Tryz.f60) n i s
@[simp] theorem H_ident_IsName_eq (n i : Nat) (s : St) : H_ident_IsName n i s = L_ident_IsName i n (headOf (an_ident_IsName.loops.lookup i) s) := rfl
noncomputable def R_ident_IsName (i : Nat) (s : St) : Option (E × St) := stepL Tryz.prog c_ident_IsName an_ident_IsName 40 (bodyOf Tryz.f60) i s
theorem lok_ident_IsName : okLoops (bodyOf Tryz.f60) = true := by kernel_rfl
theorem L_ident_IsName_zero (i : Nat) (s : St) : L_ident_IsName i 0 s = none := rfl
theorem L_ident_IsName_succ (i n : Nat) (s : St) : L_ident_IsName i (n + 1) s = andThen (R_ident_IsName i s) (H_ident_IsName n i) := atN_succ lok_ident_IsName i n s
theorem R_ident_IsName_eq (i : Nat) (s : St) : R_ident_IsName i s = runS Tryz.prog c_ident_IsName (H_ident_IsName bigL) an_ident_IsName 40 (loopAt (bodyOf Tryz.f60) i) s := rfl
noncomputable def F_ident_IsName (ds : List D) : Option D := runF Tryz.prog c_ident_IsName an_ident_IsName 40 (bodyOf Tryz.f60) [.tmp 2] ds
theorem F_ident_IsName_eq (ds : List D) : F_ident_IsName ds = runG Tryz.prog c_ident_IsName (H_ident_IsName bigL) an_ident_IsName 40 (bodyOf Tryz.f60) [.tmp 2] ds := runG_eq lok_ident_IsName _ ds
theorem C_ident_IsName (ds : List D) (r : D) (h : F_ident_IsName ds = some r) : Contract Tryz.prog gl 60 ds r := contract_of mix Tryz.func60 rfl (by kernel_rfl) (by kernel_rfl) (by decide) (call := c_ident_IsName) ⟨callOf_ok cl_ident_IsName ⟨C_ident_isSmall, C_ident_isDigit, trivial⟩, callOfE_ok ce_ident_IsName trivial⟩ h
-- sawmill/product.Find: loops [2]; state: params 0..1, then [4, 5, 6, 7, 8, 9, 10]
attribute [simp] Tryz.f92
noncomputable def an_product_Find : Ann := ⟨[4, 5, 6, 7, 8, 9, 10], [11, 18], [], [(2, [1, 8, 9, 10])], [(0, []), (1, [1, 8, 9, 10])], some [4, 5], [], [], [(39, 0, 51, 2)], []⟩
@[simp] theorem an_product_Find_draws : an_product_Find.draws = [] := rfl
@[simp] theorem an_product_Find_exits : an_product_Find.exits = [(0, []), (1, [1, 8, 9, 10])] := rfl
@[simp] theorem an_product_Find_rets : an_product_Find.rets = some [4, 5] := rfl
@[simp] theorem an_product_Find_keep : an_product_Find.keep = [4, 5, 6, 7, 8, 9, 10] := rfl
@[simp] theorem an_product_Find_cond : an_product_Find.cond = [11, 18] := rfl
@[simp] theorem an_product_Find_rows : an_product_Find.rows = [] := rfl
@[simp] theorem an_product_Find_loops : an_product_Find.loops = [(2, [1, 8, 9, 10])] := rfl
@[simp] theorem an_product_Find_ecalls : an_product_Find.ecalls = [] := rfl
@[simp] theorem an_product_Find_crows : an_product_Find.crows = [(39, 0, 51, 2)] := rfl
@[simp] theorem an_product_Find_tails : an_product_Find.tails = [] := rfl
@[simp] noncomputable def cl_product_Find : List (Nat × (List D → Option D)) := []
@[simp] noncomputable def ce_product_Find : List (Nat × (List (Nat × O) → List D → Option (D × List (Nat × O)))) := []
noncomputable def c_product_Find : CT := ⟨callOf (cl_product_Find ), callOfE ce_product_Find, gl⟩
@[simp] theorem c_product_Find_p (f : FuncId) (ds : List D) : c_product_Find.p f ds = callOf (cl_product_Find ) f ds := Eq.trans rfl rfl
@[simp] theorem c_product_Find_e (f : FuncId) (hs : List (Nat × O)) (ds : List D) : c_product_Find.e f hs ds = callOfE ce_product_Find f hs ds := Eq.trans rfl rfl
@[simp] theorem c_product_Find_g (g : Nat) : c_product_Find.g g = gl g := Eq.trans rfl rfl
noncomputable def L_product_Find (i n : Nat) (s : St) : Option (E × St) := atN Tryz.prog c_product_Find an_product_Find 21 (bodyOf Tryz.f92) i n s
noncomputable def H_product_Find (n i : Nat) (s : St) : Option (E × St) := atH Tryz.prog c_product_Find an_product_Find 21 (bodyOf Tryz.f92) n i s
@[simp] theorem H_product_Find_eq (n i : Nat) (s : St) : H_product_Find n i s = L_product_Find i n (headOf (an_product_Find.loops.lookup i) s) := rfl
noncomputable def R_product_Find (i : Nat) (s : St) : Option (E × St) := stepL Tryz.prog c_product_Find an_product_Find 21 (bodyOf Tryz.f92) i s
theorem lok_product_Find : okLoops (bodyOf Tryz.f92) = true := by kernel_rfl
theorem L_product_Find_zero (i : Nat) (s : St) : L_product_Find i 0 s = none := rfl
theorem L_product_Find_succ (i n : Nat) (s : St) : L_product_Find i (n + 1) s = andThen (R_product_Find i s) (H_product_Find n i) := atN_succ lok_product_Find i n s
theorem R_product_Find_eq (i : Nat) (s : St) : R_product_Find i s = runS Tryz.prog c_product_Find (H_product_Find bigL) an_product_Find 21 (loopAt (bodyOf Tryz.f92) i) s := rfl
noncomputable def F_product_Find (ds : List D) : Option D := runF Tryz.prog c_product_Find an_product_Find 21 (bodyOf Tryz.f92) [.tmp 4, .tmp 5] ds
theorem F_product_Find_eq (ds : List D) : F_product_Find ds = runG Tryz.prog c_product_Find (H_product_Find bigL) an_product_Find 21 (bodyOf Tryz.f92) [.tmp 4, .tmp 5] ds := runG_eq lok_product_Find _ ds
theorem C_product_Find (ds : List D) (r : D) (h : F_product_Find ds = some r) : Contract Tryz.prog gl 92 ds r := contract_of mix Tryz.func92 rfl (by kernel_rfl) (by kernel_rfl) (by decide) (call := c_product_Find) ⟨callOf_ok cl_product_Find trivial, callOfE_ok ce_product_Find trivial⟩ h
-- sawmill/product.isSize: loops []; state: params 0..0, then [2]
attribute [simp] Tryz.f97
noncomputable def an_product_isSize : Ann := ⟨[2], [], [], [], [], some [2], [], [], [(39, 0, 51, 2)], []⟩
@[simp] theorem an_product_isSize_draws : an_product_isSize.draws = [] := rfl
@[simp] theorem an_product_isSize_exits : an_product_isSize.exits = [] := rfl
@[simp] theorem an_product_isSize_rets : an_product_isSize.rets = some [2] := rfl
@[simp] theorem an_product_isSize_keep : an_product_isSize.keep = [2] := rfl
@[simp] theorem an_product_isSize_cond : an_product_isSize.cond = [] := rfl
@[simp] theorem an_product_isSize_rows : an_product_isSize.rows = [] := rfl
@[simp] theorem an_product_isSize_loops : an_product_isSize.loops = [] := rfl
@[simp] theorem an_product_isSize_ecalls : an_product_isSize.ecalls = [] := rfl
@[simp] theorem an_product_isSize_crows : an_product_isSize.crows = [(39, 0, 51, 2)] := rfl
@[simp] theorem an_product_isSize_tails : an_product_isSize.tails = [] := rfl
@[simp] noncomputable def cl_product_isSize : List (Nat × (List D → Option D)) := []
@[simp] noncomputable def ce_product_isSize : List (Nat × (List (Nat × O) → List D → Option (D × List (Nat × O)))) := []
noncomputable def c_product_isSize : CT := ⟨callOf (cl_product_isSize ), callOfE ce_product_isSize, gl⟩
@[simp] theorem c_product_isSize_p (f : FuncId) (ds : List D) : c_product_isSize.p f ds = callOf (cl_product_isSize ) f ds := Eq.trans rfl rfl
@[simp] theorem c_product_isSize_e (f : FuncId) (hs : List (Nat × O)) (ds : List D) : c_product_isSize.e f hs ds = callOfE ce_product_isSize f hs ds := Eq.trans rfl rfl
@[simp] theorem c_product_isSize_g (g : Nat) : c_product_isSize.g g = gl g := Eq.trans rfl rfl
noncomputable def L_product_isSize (i n : Nat) (s : St) : Option (E × St) := atN Tryz.prog c_product_isSize an_product_isSize 9 (bodyOf Tryz.f97) i n s
noncomputable def H_product_isSize (n i : Nat) (s : St) : Option (E × St) := atH Tryz.prog c_product_isSize an_product_isSize 9 (bodyOf Tryz.f97) n i s
@[simp] theorem H_product_isSize_eq (n i : Nat) (s : St) : H_product_isSize n i s = L_product_isSize i n (headOf (an_product_isSize.loops.lookup i) s) := rfl
noncomputable def R_product_isSize (i : Nat) (s : St) : Option (E × St) := stepL Tryz.prog c_product_isSize an_product_isSize 9 (bodyOf Tryz.f97) i s
theorem lok_product_isSize : okLoops (bodyOf Tryz.f97) = true := by kernel_rfl
noncomputable def F_product_isSize (ds : List D) : Option D := runF Tryz.prog c_product_isSize an_product_isSize 9 (bodyOf Tryz.f97) [.tmp 2] ds
theorem F_product_isSize_eq (ds : List D) : F_product_isSize ds = runG Tryz.prog c_product_isSize (H_product_isSize bigL) an_product_isSize 9 (bodyOf Tryz.f97) [.tmp 2] ds := runG_eq lok_product_isSize _ ds
theorem C_product_isSize (ds : List D) (r : D) (h : F_product_isSize ds = some r) : Contract Tryz.prog gl 97 ds r := contract_of mix Tryz.func97 rfl (by kernel_rfl) (by kernel_rfl) (by decide) (call := c_product_isSize) ⟨callOf_ok cl_product_isSize trivial, callOfE_ok ce_product_isSize trivial⟩ h
-- sawmill/product.grow: loops []; state: params 0..1, then [4]
attribute [simp] Tryz.f98
noncomputable def an_product_grow : Ann := ⟨[4], [], [], [], [], some [4], [], [], [(39, 0, 51, 2)], []⟩
@[simp] theorem an_product_grow_draws : an_product_grow.draws = [] := rfl
@[simp] theorem an_product_grow_exits : an_product_grow.exits = [] := rfl
@[simp] theorem an_product_grow_rets : an_product_grow.rets = some [4] := rfl
@[simp] theorem an_product_grow_keep : an_product_grow.keep = [4] := rfl
@[simp] theorem an_product_grow_cond : an_product_grow.cond = [] := rfl
@[simp] theorem an_product_grow_rows : an_product_grow.rows = [] := rfl
@[simp] theorem an_product_grow_loops : an_product_grow.loops = [] := rfl
@[simp] theorem an_product_grow_ecalls : an_product_grow.ecalls = [] := rfl
@[simp] theorem an_product_grow_crows : an_product_grow.crows = [(39, 0, 51, 2)] := rfl
@[simp] theorem an_product_grow_tails : an_product_grow.tails = [] := rfl
@[simp] noncomputable def cl_product_grow : List (Nat × (List D → Option D)) := []
@[simp] noncomputable def ce_product_grow : List (Nat × (List (Nat × O) → List D → Option (D × List (Nat × O)))) := []
noncomputable def c_product_grow : CT := ⟨callOf (cl_product_grow ), callOfE ce_product_grow, gl⟩
@[simp] theorem c_product_grow_p (f : FuncId) (ds : List D) : c_product_grow.p f ds = callOf (cl_product_grow ) f ds := Eq.trans rfl rfl
@[simp] theorem c_product_grow_e (f : FuncId) (hs : List (Nat × O)) (ds : List D) : c_product_grow.e f hs ds = callOfE ce_product_grow f hs ds := Eq.trans rfl rfl
@[simp] theorem c_product_grow_g (g : Nat) : c_product_grow.g g = gl g := Eq.trans rfl rfl
noncomputable def L_product_grow (i n : Nat) (s : St) : Option (E × St) := atN Tryz.prog c_product_grow an_product_grow 11 (bodyOf Tryz.f98) i n s
noncomputable def H_product_grow (n i : Nat) (s : St) : Option (E × St) := atH Tryz.prog c_product_grow an_product_grow 11 (bodyOf Tryz.f98) n i s
@[simp] theorem H_product_grow_eq (n i : Nat) (s : St) : H_product_grow n i s = L_product_grow i n (headOf (an_product_grow.loops.lookup i) s) := rfl
noncomputable def R_product_grow (i : Nat) (s : St) : Option (E × St) := stepL Tryz.prog c_product_grow an_product_grow 11 (bodyOf Tryz.f98) i s
theorem lok_product_grow : okLoops (bodyOf Tryz.f98) = true := by kernel_rfl
noncomputable def F_product_grow (ds : List D) : Option D := runF Tryz.prog c_product_grow an_product_grow 11 (bodyOf Tryz.f98) [.tmp 4] ds
theorem F_product_grow_eq (ds : List D) : F_product_grow ds = runG Tryz.prog c_product_grow (H_product_grow bigL) an_product_grow 11 (bodyOf Tryz.f98) [.tmp 4] ds := runG_eq lok_product_grow _ ds
theorem C_product_grow (ds : List D) (r : D) (h : F_product_grow ds = some r) : Contract Tryz.prog gl 98 ds r := contract_of mix Tryz.func98 rfl (by kernel_rfl) (by kernel_rfl) (by decide) (call := c_product_grow) ⟨callOf_ok cl_product_grow trivial, callOfE_ok ce_product_grow trivial⟩ h
-- sawmill/product.Green: loops []; state: params 0..0, then [1, 2, 3]
attribute [simp] Tryz.f63
noncomputable def an_product_Green : Ann := ⟨[1, 2, 3], [23], [], [], [], some [2, 3], [(3, 9)], [], [(39, 0, 51, 2)], []⟩
@[simp] theorem an_product_Green_draws : an_product_Green.draws = [(3, 9)] := rfl
@[simp] theorem an_product_Green_exits : an_product_Green.exits = [] := rfl
@[simp] theorem an_product_Green_rets : an_product_Green.rets = some [2, 3] := rfl
@[simp] theorem an_product_Green_keep : an_product_Green.keep = [1, 2, 3] := rfl
@[simp] theorem an_product_Green_cond : an_product_Green.cond = [23] := rfl
@[simp] theorem an_product_Green_rows : an_product_Green.rows = [] := rfl
@[simp] theorem an_product_Green_loops : an_product_Green.loops = [] := rfl
@[simp] theorem an_product_Green_ecalls : an_product_Green.ecalls = [] := rfl
@[simp] theorem an_product_Green_crows : an_product_Green.crows = [(39, 0, 51, 2)] := rfl
@[simp] theorem an_product_Green_tails : an_product_Green.tails = [] := rfl
@[simp] noncomputable def cl_product_Green : List (Nat × (List D → Option D)) := [(97, F_product_isSize), (98, F_product_grow)]
@[simp] noncomputable def ce_product_Green : List (Nat × (List (Nat × O) → List D → Option (D × List (Nat × O)))) := []
noncomputable def c_product_Green : CT := ⟨callOf (cl_product_Green ), callOfE ce_product_Green, gl⟩
@[simp] theorem c_product_Green_p (f : FuncId) (ds : List D) : c_product_Green.p f ds = callOf (cl_product_Green ) f ds := Eq.trans rfl rfl
@[simp] theorem c_product_Green_e (f : FuncId) (hs : List (Nat × O)) (ds : List D) : c_product_Green.e f hs ds = callOfE ce_product_Green f hs ds := Eq.trans rfl rfl
@[simp] theorem c_product_Green_g (g : Nat) : c_product_Green.g g = gl g := Eq.trans rfl rfl
noncomputable def L_product_Green (i n : Nat) (s : St) : Option (E × St) := atN Tryz.prog c_product_Green an_product_Green 34 (bodyOf Tryz.f63) i n s
noncomputable def H_product_Green (n i : Nat) (s : St) : Option (E × St) := atH Tryz.prog c_product_Green an_product_Green 34 (bodyOf Tryz.f63) n i s
@[simp] theorem H_product_Green_eq (n i : Nat) (s : St) : H_product_Green n i s = L_product_Green i n (headOf (an_product_Green.loops.lookup i) s) := rfl
noncomputable def R_product_Green (i : Nat) (s : St) : Option (E × St) := stepL Tryz.prog c_product_Green an_product_Green 34 (bodyOf Tryz.f63) i s
theorem lok_product_Green : okLoops (bodyOf Tryz.f63) = true := by kernel_rfl
noncomputable def F_product_Green (ds : List D) : Option D := runF Tryz.prog c_product_Green an_product_Green 34 (bodyOf Tryz.f63) [.tmp 2, .tmp 3] ds
theorem F_product_Green_eq (ds : List D) : F_product_Green ds = runG Tryz.prog c_product_Green (H_product_Green bigL) an_product_Green 34 (bodyOf Tryz.f63) [.tmp 2, .tmp 3] ds := runG_eq lok_product_Green _ ds
theorem C_product_Green (ds : List D) (r : D) (h : F_product_Green ds = some r) : Contract Tryz.prog gl 63 ds r := contract_of mix Tryz.func63 rfl (by kernel_rfl) (by kernel_rfl) (by decide) (call := c_product_Green) ⟨callOf_ok cl_product_Green ⟨C_product_isSize, C_product_grow, trivial⟩, callOfE_ok ce_product_Green trivial⟩ h
-- sawmill/product.checkNumbers: loops [15, 23]; state: params 0..0, then [1, 2, 4, 5, 6, 8, 70, 71, 72, 97, 98, 99]
attribute [simp] Tryz.f93
noncomputable def an_product_checkNumbers : Ann := ⟨[1, 2, 4, 5, 6, 8, 70, 71, 72, 97, 98, 99], [28, 46, 53, 57, 61, 68, 73, 82, 94, 100, 108], [], [(15, [1, 70, 71, 72]), (23, [97, 98, 99])], [(0, [1]), (1, [1, 70, 71, 72]), (2, []), (3, [97, 98, 99])], some [2], [], [], [(39, 0, 51, 2)], []⟩
@[simp] theorem an_product_checkNumbers_draws : an_product_checkNumbers.draws = [] := rfl
@[simp] theorem an_product_checkNumbers_exits : an_product_checkNumbers.exits = [(0, [1]), (1, [1, 70, 71, 72]), (2, []), (3, [97, 98, 99])] := rfl
@[simp] theorem an_product_checkNumbers_rets : an_product_checkNumbers.rets = some [2] := rfl
@[simp] theorem an_product_checkNumbers_keep : an_product_checkNumbers.keep = [1, 2, 4, 5, 6, 8, 70, 71, 72, 97, 98, 99] := rfl
@[simp] theorem an_product_checkNumbers_cond : an_product_checkNumbers.cond = [28, 46, 53, 57, 61, 68, 73, 82, 94, 100, 108] := rfl
@[simp] theorem an_product_checkNumbers_rows : an_product_checkNumbers.rows = [] := rfl
@[simp] theorem an_product_checkNumbers_loops : an_product_checkNumbers.loops = [(15, [1, 70, 71, 72]), (23, [97, 98, 99])] := rfl
@[simp] theorem an_product_checkNumbers_ecalls : an_product_checkNumbers.ecalls = [] := rfl
@[simp] theorem an_product_checkNumbers_crows : an_product_checkNumbers.crows = [(39, 0, 51, 2)] := rfl
@[simp] theorem an_product_checkNumbers_tails : an_product_checkNumbers.tails = [] := rfl
@[simp] noncomputable def cl_product_checkNumbers : List (Nat × (List D → Option D)) := [(63, F_product_Green)]
@[simp] noncomputable def ce_product_checkNumbers : List (Nat × (List (Nat × O) → List D → Option (D × List (Nat × O)))) := []
noncomputable def c_product_checkNumbers : CT := ⟨callOf (cl_product_checkNumbers ), callOfE ce_product_checkNumbers, gl⟩
@[simp] theorem c_product_checkNumbers_p (f : FuncId) (ds : List D) : c_product_checkNumbers.p f ds = callOf (cl_product_checkNumbers ) f ds := Eq.trans rfl rfl
@[simp] theorem c_product_checkNumbers_e (f : FuncId) (hs : List (Nat × O)) (ds : List D) : c_product_checkNumbers.e f hs ds = callOfE ce_product_checkNumbers f hs ds := Eq.trans rfl rfl
@[simp] theorem c_product_checkNumbers_g (g : Nat) : c_product_checkNumbers.g g = gl g := Eq.trans rfl rfl
noncomputable def L_product_checkNumbers (i n : Nat) (s : St) : Option (E × St) := atN Tryz.prog c_product_checkNumbers an_product_checkNumbers 110 (bodyOf Tryz.f93) i n s
noncomputable def H_product_checkNumbers (n i : Nat) (s : St) : Option (E × St) := atH Tryz.prog c_product_checkNumbers an_product_checkNumbers 110 (bodyOf Tryz.f93) n i s
@[simp] theorem H_product_checkNumbers_eq (n i : Nat) (s : St) : H_product_checkNumbers n i s = L_product_checkNumbers i n (headOf (an_product_checkNumbers.loops.lookup i) s) := rfl
noncomputable def R_product_checkNumbers (i : Nat) (s : St) : Option (E × St) := stepL Tryz.prog c_product_checkNumbers an_product_checkNumbers 110 (bodyOf Tryz.f93) i s
theorem lok_product_checkNumbers : okLoops (bodyOf Tryz.f93) = true := by kernel_rfl
theorem L_product_checkNumbers_zero (i : Nat) (s : St) : L_product_checkNumbers i 0 s = none := rfl
theorem L_product_checkNumbers_succ (i n : Nat) (s : St) : L_product_checkNumbers i (n + 1) s = andThen (R_product_checkNumbers i s) (H_product_checkNumbers n i) := atN_succ lok_product_checkNumbers i n s
theorem R_product_checkNumbers_eq (i : Nat) (s : St) : R_product_checkNumbers i s = runS Tryz.prog c_product_checkNumbers (H_product_checkNumbers bigL) an_product_checkNumbers 110 (loopAt (bodyOf Tryz.f93) i) s := rfl
noncomputable def F_product_checkNumbers (ds : List D) : Option D := runF Tryz.prog c_product_checkNumbers an_product_checkNumbers 110 (bodyOf Tryz.f93) [.tmp 2] ds
theorem F_product_checkNumbers_eq (ds : List D) : F_product_checkNumbers ds = runG Tryz.prog c_product_checkNumbers (H_product_checkNumbers bigL) an_product_checkNumbers 110 (bodyOf Tryz.f93) [.tmp 2] ds := runG_eq lok_product_checkNumbers _ ds
theorem C_product_checkNumbers (ds : List D) (r : D) (h : F_product_checkNumbers ds = some r) : Contract Tryz.prog gl 93 ds r := contract_of mix Tryz.func93 rfl (by kernel_rfl) (by kernel_rfl) (by decide) (call := c_product_checkNumbers) ⟨callOf_ok cl_product_checkNumbers ⟨C_product_Green, trivial⟩, callOfE_ok ce_product_checkNumbers trivial⟩ h
-- sawmill/product.Check: loops [4]; state: params 0..0, then [2, 3, 4, 6, 7, 11, 12, 13]
attribute [simp] Tryz.f58
noncomputable def an_product_Check : Ann := ⟨[0, 2, 3, 4, 6, 7, 11, 12, 13], [10, 14, 21, 31, 35], [], [(4, [0, 11, 12, 13])], [(0, []), (1, [0, 11, 12, 13])], some [2], [(8, 10)], [], [(39, 0, 51, 2)], []⟩
@[simp] theorem an_product_Check_draws : an_product_Check.draws = [(8, 10)] := rfl
@[simp] theorem an_product_Check_exits : an_product_Check.exits = [(0, []), (1, [0, 11, 12, 13])] := rfl
@[simp] theorem an_product_Check_rets : an_product_Check.rets = some [2] := rfl
@[simp] theorem an_product_Check_keep : an_product_Check.keep = [0, 2, 3, 4, 6, 7, 11, 12, 13] := rfl
@[simp] theorem an_product_Check_cond : an_product_Check.cond = [10, 14, 21, 31, 35] := rfl
@[simp] theorem an_product_Check_rows : an_product_Check.rows = [] := rfl
@[simp] theorem an_product_Check_loops : an_product_Check.loops = [(4, [0, 11, 12, 13])] := rfl
@[simp] theorem an_product_Check_ecalls : an_product_Check.ecalls = [] := rfl
@[simp] theorem an_product_Check_crows : an_product_Check.crows = [(39, 0, 51, 2)] := rfl
@[simp] theorem an_product_Check_tails : an_product_Check.tails = [] := rfl
@[simp] noncomputable def cl_product_Check : List (Nat × (List D → Option D)) := [(60, F_ident_IsName), (92, F_product_Find), (93, F_product_checkNumbers)]
@[simp] noncomputable def ce_product_Check : List (Nat × (List (Nat × O) → List D → Option (D × List (Nat × O)))) := []
noncomputable def c_product_Check : CT := ⟨callOf (cl_product_Check ), callOfE ce_product_Check, gl⟩
@[simp] theorem c_product_Check_p (f : FuncId) (ds : List D) : c_product_Check.p f ds = callOf (cl_product_Check ) f ds := Eq.trans rfl rfl
@[simp] theorem c_product_Check_e (f : FuncId) (hs : List (Nat × O)) (ds : List D) : c_product_Check.e f hs ds = callOfE ce_product_Check f hs ds := Eq.trans rfl rfl
@[simp] theorem c_product_Check_g (g : Nat) : c_product_Check.g g = gl g := Eq.trans rfl rfl
noncomputable def L_product_Check (i n : Nat) (s : St) : Option (E × St) := atN Tryz.prog c_product_Check an_product_Check 38 (bodyOf Tryz.f58) i n s
noncomputable def H_product_Check (n i : Nat) (s : St) : Option (E × St) := atH Tryz.prog c_product_Check an_product_Check 38 (bodyOf Tryz.f58) n i s
@[simp] theorem H_product_Check_eq (n i : Nat) (s : St) : H_product_Check n i s = L_product_Check i n (headOf (an_product_Check.loops.lookup i) s) := rfl
noncomputable def R_product_Check (i : Nat) (s : St) : Option (E × St) := stepL Tryz.prog c_product_Check an_product_Check 38 (bodyOf Tryz.f58) i s
theorem lok_product_Check : okLoops (bodyOf Tryz.f58) = true := by kernel_rfl
theorem L_product_Check_zero (i : Nat) (s : St) : L_product_Check i 0 s = none := rfl
theorem L_product_Check_succ (i n : Nat) (s : St) : L_product_Check i (n + 1) s = andThen (R_product_Check i s) (H_product_Check n i) := atN_succ lok_product_Check i n s
theorem R_product_Check_eq (i : Nat) (s : St) : R_product_Check i s = runS Tryz.prog c_product_Check (H_product_Check bigL) an_product_Check 38 (loopAt (bodyOf Tryz.f58) i) s := rfl
noncomputable def F_product_Check (ds : List D) : Option D := runF Tryz.prog c_product_Check an_product_Check 38 (bodyOf Tryz.f58) [.tmp 2] ds
theorem F_product_Check_eq (ds : List D) : F_product_Check ds = runG Tryz.prog c_product_Check (H_product_Check bigL) an_product_Check 38 (bodyOf Tryz.f58) [.tmp 2] ds := runG_eq lok_product_Check _ ds
theorem C_product_Check (ds : List D) (r : D) (h : F_product_Check ds = some r) : Contract Tryz.prog gl 58 ds r := contract_of mix Tryz.func58 rfl (by kernel_rfl) (by kernel_rfl) (by decide) (call := c_product_Check) ⟨callOf_ok cl_product_Check ⟨C_ident_IsName, C_product_Find, C_product_checkNumbers, trivial⟩, callOfE_ok ce_product_Check trivial⟩ h
-- sawmill/ident.isCapital: loops []; state: params 0..0, then [2]
attribute [simp] Tryz.f116
noncomputable def an_ident_isCapital : Ann := ⟨[2], [], [], [], [], some [2], [], [], [(39, 0, 51, 2)], []⟩
@[simp] theorem an_ident_isCapital_draws : an_ident_isCapital.draws = [] := rfl
@[simp] theorem an_ident_isCapital_exits : an_ident_isCapital.exits = [] := rfl
@[simp] theorem an_ident_isCapital_rets : an_ident_isCapital.rets = some [2] := rfl
@[simp] theorem an_ident_isCapital_keep : an_ident_isCapital.keep = [2] := rfl
@[simp] theorem an_ident_isCapital_cond : an_ident_isCapital.cond = [] := rfl
@[simp] theorem an_ident_isCapital_rows : an_ident_isCapital.rows = [] := rfl
@[simp] theorem an_ident_isCapital_loops : an_ident_isCapital.loops = [] := rfl
@[simp] theorem an_ident_isCapital_ecalls : an_ident_isCapital.ecalls = [] := rfl
@[simp] theorem an_ident_isCapital_crows : an_ident_isCapital.crows = [(39, 0, 51, 2)] := rfl
@[simp] theorem an_ident_isCapital_tails : an_ident_isCapital.tails = [] := rfl
@[simp] noncomputable def cl_ident_isCapital : List (Nat × (List D → Option D)) := []
@[simp] noncomputable def ce_ident_isCapital : List (Nat × (List (Nat × O) → List D → Option (D × List (Nat × O)))) := []
noncomputable def c_ident_isCapital : CT := ⟨callOf (cl_ident_isCapital ), callOfE ce_ident_isCapital, gl⟩
@[simp] theorem c_ident_isCapital_p (f : FuncId) (ds : List D) : c_ident_isCapital.p f ds = callOf (cl_ident_isCapital ) f ds := Eq.trans rfl rfl
@[simp] theorem c_ident_isCapital_e (f : FuncId) (hs : List (Nat × O)) (ds : List D) : c_ident_isCapital.e f hs ds = callOfE ce_ident_isCapital f hs ds := Eq.trans rfl rfl
@[simp] theorem c_ident_isCapital_g (g : Nat) : c_ident_isCapital.g g = gl g := Eq.trans rfl rfl
noncomputable def L_ident_isCapital (i n : Nat) (s : St) : Option (E × St) := atN Tryz.prog c_ident_isCapital an_ident_isCapital 9 (bodyOf Tryz.f116) i n s
noncomputable def H_ident_isCapital (n i : Nat) (s : St) : Option (E × St) := atH Tryz.prog c_ident_isCapital an_ident_isCapital 9 (bodyOf Tryz.f116) n i s
@[simp] theorem H_ident_isCapital_eq (n i : Nat) (s : St) : H_ident_isCapital n i s = L_ident_isCapital i n (headOf (an_ident_isCapital.loops.lookup i) s) := rfl
noncomputable def R_ident_isCapital (i : Nat) (s : St) : Option (E × St) := stepL Tryz.prog c_ident_isCapital an_ident_isCapital 9 (bodyOf Tryz.f116) i s
theorem lok_ident_isCapital : okLoops (bodyOf Tryz.f116) = true := by kernel_rfl
noncomputable def F_ident_isCapital (ds : List D) : Option D := runF Tryz.prog c_ident_isCapital an_ident_isCapital 9 (bodyOf Tryz.f116) [.tmp 2] ds
theorem F_ident_isCapital_eq (ds : List D) : F_ident_isCapital ds = runG Tryz.prog c_ident_isCapital (H_ident_isCapital bigL) an_ident_isCapital 9 (bodyOf Tryz.f116) [.tmp 2] ds := runG_eq lok_ident_isCapital _ ds
theorem C_ident_isCapital (ds : List D) (r : D) (h : F_ident_isCapital ds = some r) : Contract Tryz.prog gl 116 ds r := contract_of mix Tryz.func116 rfl (by kernel_rfl) (by kernel_rfl) (by decide) (call := c_ident_isCapital) ⟨callOf_ok cl_ident_isCapital trivial, callOfE_ok ce_ident_isCapital trivial⟩ h
-- sawmill/ident.parts: loops []; state: params 0..-1, then [0]
attribute [simp] Tryz.f110
noncomputable def an_ident_parts : Ann := ⟨[0], [], [], [], [], some [0], [], [], [(39, 0, 51, 2)], []⟩
@[simp] theorem an_ident_parts_draws : an_ident_parts.draws = [] := rfl
@[simp] theorem an_ident_parts_exits : an_ident_parts.exits = [] := rfl
@[simp] theorem an_ident_parts_rets : an_ident_parts.rets = some [0] := rfl
@[simp] theorem an_ident_parts_keep : an_ident_parts.keep = [0] := rfl
@[simp] theorem an_ident_parts_cond : an_ident_parts.cond = [] := rfl
@[simp] theorem an_ident_parts_rows : an_ident_parts.rows = [] := rfl
@[simp] theorem an_ident_parts_loops : an_ident_parts.loops = [] := rfl
@[simp] theorem an_ident_parts_ecalls : an_ident_parts.ecalls = [] := rfl
@[simp] theorem an_ident_parts_crows : an_ident_parts.crows = [(39, 0, 51, 2)] := rfl
@[simp] theorem an_ident_parts_tails : an_ident_parts.tails = [] := rfl
@[simp] noncomputable def cl_ident_parts : List (Nat × (List D → Option D)) := [(96, F_ident_isDigit), (116, F_ident_isCapital)]
@[simp] noncomputable def ce_ident_parts : List (Nat × (List (Nat × O) → List D → Option (D × List (Nat × O)))) := []
noncomputable def c_ident_parts : CT := ⟨callOf (cl_ident_parts ), callOfE ce_ident_parts, gl⟩
@[simp] theorem c_ident_parts_p (f : FuncId) (ds : List D) : c_ident_parts.p f ds = callOf (cl_ident_parts ) f ds := Eq.trans rfl rfl
@[simp] theorem c_ident_parts_e (f : FuncId) (hs : List (Nat × O)) (ds : List D) : c_ident_parts.e f hs ds = callOfE ce_ident_parts f hs ds := Eq.trans rfl rfl
@[simp] theorem c_ident_parts_g (g : Nat) : c_ident_parts.g g = gl g := Eq.trans rfl rfl
noncomputable def L_ident_parts (i n : Nat) (s : St) : Option (E × St) := atN Tryz.prog c_ident_parts an_ident_parts 4 (bodyOf Tryz.f110) i n s
noncomputable def H_ident_parts (n i : Nat) (s : St) : Option (E × St) := atH Tryz.prog c_ident_parts an_ident_parts 4 (bodyOf Tryz.f110) n i s
@[simp] theorem H_ident_parts_eq (n i : Nat) (s : St) : H_ident_parts n i s = L_ident_parts i n (headOf (an_ident_parts.loops.lookup i) s) := rfl
noncomputable def R_ident_parts (i : Nat) (s : St) : Option (E × St) := stepL Tryz.prog c_ident_parts an_ident_parts 4 (bodyOf Tryz.f110) i s
theorem lok_ident_parts : okLoops (bodyOf Tryz.f110) = true := by kernel_rfl
noncomputable def F_ident_parts (ds : List D) : Option D := runF Tryz.prog c_ident_parts an_ident_parts 4 (bodyOf Tryz.f110) [.tmp 0] ds
theorem F_ident_parts_eq (ds : List D) : F_ident_parts ds = runG Tryz.prog c_ident_parts (H_ident_parts bigL) an_ident_parts 4 (bodyOf Tryz.f110) [.tmp 0] ds := runG_eq lok_ident_parts _ ds
theorem C_ident_parts (ds : List D) (r : D) (h : F_ident_parts ds = some r) : Contract Tryz.prog gl 110 ds r := contract_of mix Tryz.func110 rfl (by kernel_rfl) (by kernel_rfl) (by decide) (call := c_ident_parts) ⟨callOf_ok cl_ident_parts ⟨C_ident_isDigit, C_ident_isCapital, trivial⟩, callOfE_ok ce_ident_parts trivial⟩ h
-- sawmill/ident.Letter: loops [3]; state: params 0..0, then [2, 3, 4]
attribute [simp] Tryz.f111
noncomputable def an_ident_Letter : Ann := ⟨[0, 2, 3, 4], [8], [], [(3, [0, 3, 4])], [(0, [3]), (1, [0, 3, 4])], some [2], [], [], [(39, 0, 51, 2)], []⟩
@[simp] theorem an_ident_Letter_draws : an_ident_Letter.draws = [] := rfl
@[simp] theorem an_ident_Letter_exits : an_ident_Letter.exits = [(0, [3]), (1, [0, 3, 4])] := rfl
@[simp] theorem an_ident_Letter_rets : an_ident_Letter.rets = some [2] := rfl
@[simp] theorem an_ident_Letter_keep : an_ident_Letter.keep = [0, 2, 3, 4] := rfl
@[simp] theorem an_ident_Letter_cond : an_ident_Letter.cond = [8] := rfl
@[simp] theorem an_ident_Letter_rows : an_ident_Letter.rows = [] := rfl
@[simp] theorem an_ident_Letter_loops : an_ident_Letter.loops = [(3, [0, 3, 4])] := rfl
@[simp] theorem an_ident_Letter_ecalls : an_ident_Letter.ecalls = [] := rfl
@[simp] theorem an_ident_Letter_crows : an_ident_Letter.crows = [(39, 0, 51, 2)] := rfl
@[simp] theorem an_ident_Letter_tails : an_ident_Letter.tails = [] := rfl
@[simp] noncomputable def cl_ident_Letter : List (Nat × (List D → Option D)) := []
@[simp] noncomputable def ce_ident_Letter : List (Nat × (List (Nat × O) → List D → Option (D × List (Nat × O)))) := []
noncomputable def c_ident_Letter : CT := ⟨callOf (cl_ident_Letter ), callOfE ce_ident_Letter, gl⟩
@[simp] theorem c_ident_Letter_p (f : FuncId) (ds : List D) : c_ident_Letter.p f ds = callOf (cl_ident_Letter ) f ds := Eq.trans rfl rfl
@[simp] theorem c_ident_Letter_e (f : FuncId) (hs : List (Nat × O)) (ds : List D) : c_ident_Letter.e f hs ds = callOfE ce_ident_Letter f hs ds := Eq.trans rfl rfl
@[simp] theorem c_ident_Letter_g (g : Nat) : c_ident_Letter.g g = gl g := Eq.trans rfl rfl
noncomputable def L_ident_Letter (i n : Nat) (s : St) : Option (E × St) := atN Tryz.prog c_ident_Letter an_ident_Letter 24 (bodyOf Tryz.f111) i n s
noncomputable def H_ident_Letter (n i : Nat) (s : St) : Option (E × St) := atH Tryz.prog c_ident_Letter an_ident_Letter 24 (bodyOf Tryz.f111) n i s
@[simp] theorem H_ident_Letter_eq (n i : Nat) (s : St) : H_ident_Letter n i s = L_ident_Letter i n (headOf (an_ident_Letter.loops.lookup i) s) := rfl
noncomputable def R_ident_Letter (i : Nat) (s : St) : Option (E × St) := stepL Tryz.prog c_ident_Letter an_ident_Letter 24 (bodyOf Tryz.f111) i s
theorem lok_ident_Letter : okLoops (bodyOf Tryz.f111) = true := by kernel_rfl
theorem L_ident_Letter_zero (i : Nat) (s : St) : L_ident_Letter i 0 s = none := rfl
theorem L_ident_Letter_succ (i n : Nat) (s : St) : L_ident_Letter i (n + 1) s = andThen (R_ident_Letter i s) (H_ident_Letter n i) := atN_succ lok_ident_Letter i n s
theorem R_ident_Letter_eq (i : Nat) (s : St) : R_ident_Letter i s = runS Tryz.prog c_ident_Letter (H_ident_Letter bigL) an_ident_Letter 24 (loopAt (bodyOf Tryz.f111) i) s := rfl
noncomputable def F_ident_Letter (ds : List D) : Option D := runF Tryz.prog c_ident_Letter an_ident_Letter 24 (bodyOf Tryz.f111) [.tmp 2] ds
theorem F_ident_Letter_eq (ds : List D) : F_ident_Letter ds = runG Tryz.prog c_ident_Letter (H_ident_Letter bigL) an_ident_Letter 24 (bodyOf Tryz.f111) [.tmp 2] ds := runG_eq lok_ident_Letter _ ds
theorem C_ident_Letter (ds : List D) (r : D) (h : F_ident_Letter ds = some r) : Contract Tryz.prog gl 111 ds r := contract_of mix Tryz.func111 rfl (by kernel_rfl) (by kernel_rfl) (by decide) (call := c_ident_Letter) ⟨callOf_ok cl_ident_Letter trivial, callOfE_ok ce_ident_Letter trivial⟩ h
-- sawmill/ident.Split: loops [4, 7, 16]; state: params 0..0, then [2, 3, 4, 6, 7, 8, 9, 13, 14, 15]
attribute [simp] Tryz.f94
noncomputable def an_ident_Split : Ann := ⟨[0, 2, 3, 4, 6, 7, 8, 9, 13, 14, 15], [12, 16, 24, 33, 42, 44], [], [(4, [0, 13, 14, 15]), (7, [0, 6, 7, 13, 14, 15]), (16, [0, 8, 9])], [(0, [0]), (1, [0, 13, 14, 15]), (2, [0, 13, 14, 15]), (3, [0, 6, 7, 13, 14, 15]), (4, [0, 8]), (5, [0, 8, 9])], some [2, 3, 4], [(9, 5), (10, 4), (12, 5)], [], [(39, 0, 51, 2)], []⟩
@[simp] theorem an_ident_Split_draws : an_ident_Split.draws = [(9, 5), (10, 4), (12, 5)] := rfl
@[simp] theorem an_ident_Split_exits : an_ident_Split.exits = [(0, [0]), (1, [0, 13, 14, 15]), (2, [0, 13, 14, 15]), (3, [0, 6, 7, 13, 14, 15]), (4, [0, 8]), (5, [0, 8, 9])] := rfl
@[simp] theorem an_ident_Split_rets : an_ident_Split.rets = some [2, 3, 4] := rfl
@[simp] theorem an_ident_Split_keep : an_ident_Split.keep = [0, 2, 3, 4, 6, 7, 8, 9, 13, 14, 15] := rfl
@[simp] theorem an_ident_Split_cond : an_ident_Split.cond = [12, 16, 24, 33, 42, 44] := rfl
@[simp] theorem an_ident_Split_rows : an_ident_Split.rows = [] := rfl
@[simp] theorem an_ident_Split_loops : an_ident_Split.loops = [(4, [0, 13, 14, 15]), (7, [0, 6, 7, 13, 14, 15]), (16, [0, 8, 9])] := rfl
@[simp] theorem an_ident_Split_ecalls : an_ident_Split.ecalls = [] := rfl
@[simp] theorem an_ident_Split_crows : an_ident_Split.crows = [(39, 0, 51, 2)] := rfl
@[simp] theorem an_ident_Split_tails : an_ident_Split.tails = [] := rfl
@[simp] noncomputable def cl_ident_Split : List (Nat × (List D → Option D)) := [(96, F_ident_isDigit), (110, F_ident_parts), (111, F_ident_Letter), (116, F_ident_isCapital)]
@[simp] noncomputable def ce_ident_Split : List (Nat × (List (Nat × O) → List D → Option (D × List (Nat × O)))) := []
noncomputable def c_ident_Split : CT := ⟨callOf (cl_ident_Split ), callOfE ce_ident_Split, gl⟩
@[simp] theorem c_ident_Split_p (f : FuncId) (ds : List D) : c_ident_Split.p f ds = callOf (cl_ident_Split ) f ds := Eq.trans rfl rfl
@[simp] theorem c_ident_Split_e (f : FuncId) (hs : List (Nat × O)) (ds : List D) : c_ident_Split.e f hs ds = callOfE ce_ident_Split f hs ds := Eq.trans rfl rfl
@[simp] theorem c_ident_Split_g (g : Nat) : c_ident_Split.g g = gl g := Eq.trans rfl rfl
noncomputable def L_ident_Split (i n : Nat) (s : St) : Option (E × St) := atN Tryz.prog c_ident_Split an_ident_Split 58 (bodyOf Tryz.f94) i n s
noncomputable def H_ident_Split (n i : Nat) (s : St) : Option (E × St) := atH Tryz.prog c_ident_Split an_ident_Split 58 (bodyOf Tryz.f94) n i s
@[simp] theorem H_ident_Split_eq (n i : Nat) (s : St) : H_ident_Split n i s = L_ident_Split i n (headOf (an_ident_Split.loops.lookup i) s) := rfl
noncomputable def R_ident_Split (i : Nat) (s : St) : Option (E × St) := stepL Tryz.prog c_ident_Split an_ident_Split 58 (bodyOf Tryz.f94) i s
theorem lok_ident_Split : okLoops (bodyOf Tryz.f94) = true := by kernel_rfl
theorem L_ident_Split_zero (i : Nat) (s : St) : L_ident_Split i 0 s = none := rfl
theorem L_ident_Split_succ (i n : Nat) (s : St) : L_ident_Split i (n + 1) s = andThen (R_ident_Split i s) (H_ident_Split n i) := atN_succ lok_ident_Split i n s
theorem R_ident_Split_eq (i : Nat) (s : St) : R_ident_Split i s = runS Tryz.prog c_ident_Split (H_ident_Split bigL) an_ident_Split 58 (loopAt (bodyOf Tryz.f94) i) s := rfl
noncomputable def F_ident_Split (ds : List D) : Option D := runF Tryz.prog c_ident_Split an_ident_Split 58 (bodyOf Tryz.f94) [.tmp 2, .tmp 3, .tmp 4] ds
theorem F_ident_Split_eq (ds : List D) : F_ident_Split ds = runG Tryz.prog c_ident_Split (H_ident_Split bigL) an_ident_Split 58 (bodyOf Tryz.f94) [.tmp 2, .tmp 3, .tmp 4] ds := runG_eq lok_ident_Split _ ds
theorem C_ident_Split (ds : List D) (r : D) (h : F_ident_Split ds = some r) : Contract Tryz.prog gl 94 ds r := contract_of mix Tryz.func94 rfl (by kernel_rfl) (by kernel_rfl) (by decide) (call := c_ident_Split) ⟨callOf_ok cl_ident_Split ⟨C_ident_isDigit, C_ident_parts, C_ident_Letter, C_ident_isCapital, trivial⟩, callOfE_ok ce_ident_Split trivial⟩ h
-- sawmill/ident.Is: loops []; state: params 0..1, then [4, 5, 7]
attribute [simp] Tryz.f59
noncomputable def an_ident_Is : Ann := ⟨[4, 5, 7], [], [], [], [], some [4], [], [], [(39, 0, 51, 2)], []⟩
@[simp] theorem an_ident_Is_draws : an_ident_Is.draws = [] := rfl
@[simp] theorem an_ident_Is_exits : an_ident_Is.exits = [] := rfl
@[simp] theorem an_ident_Is_rets : an_ident_Is.rets = some [4] := rfl
@[simp] theorem an_ident_Is_keep : an_ident_Is.keep = [4, 5, 7] := rfl
@[simp] theorem an_ident_Is_cond : an_ident_Is.cond = [] := rfl
@[simp] theorem an_ident_Is_rows : an_ident_Is.rows = [] := rfl
@[simp] theorem an_ident_Is_loops : an_ident_Is.loops = [] := rfl
@[simp] theorem an_ident_Is_ecalls : an_ident_Is.ecalls = [] := rfl
@[simp] theorem an_ident_Is_crows : an_ident_Is.crows = [(39, 0, 51, 2)] := rfl
@[simp] theorem an_ident_Is_tails : an_ident_Is.tails = [] := rfl
@[simp] noncomputable def cl_ident_Is : List (Nat × (List D → Option D)) := [(94, F_ident_Split)]
@[simp] noncomputable def ce_ident_Is : List (Nat × (List (Nat × O) → List D → Option (D × List (Nat × O)))) := []
noncomputable def c_ident_Is : CT := ⟨callOf (cl_ident_Is ), callOfE ce_ident_Is, gl⟩
@[simp] theorem c_ident_Is_p (f : FuncId) (ds : List D) : c_ident_Is.p f ds = callOf (cl_ident_Is ) f ds := Eq.trans rfl rfl
@[simp] theorem c_ident_Is_e (f : FuncId) (hs : List (Nat × O)) (ds : List D) : c_ident_Is.e f hs ds = callOfE ce_ident_Is f hs ds := Eq.trans rfl rfl
@[simp] theorem c_ident_Is_g (g : Nat) : c_ident_Is.g g = gl g := Eq.trans rfl rfl
noncomputable def L_ident_Is (i n : Nat) (s : St) : Option (E × St) := atN Tryz.prog c_ident_Is an_ident_Is 21 (bodyOf Tryz.f59) i n s
noncomputable def H_ident_Is (n i : Nat) (s : St) : Option (E × St) := atH Tryz.prog c_ident_Is an_ident_Is 21 (bodyOf Tryz.f59) n i s
@[simp] theorem H_ident_Is_eq (n i : Nat) (s : St) : H_ident_Is n i s = L_ident_Is i n (headOf (an_ident_Is.loops.lookup i) s) := rfl
noncomputable def R_ident_Is (i : Nat) (s : St) : Option (E × St) := stepL Tryz.prog c_ident_Is an_ident_Is 21 (bodyOf Tryz.f59) i s
theorem lok_ident_Is : okLoops (bodyOf Tryz.f59) = true := by kernel_rfl
noncomputable def F_ident_Is (ds : List D) : Option D := runF Tryz.prog c_ident_Is an_ident_Is 21 (bodyOf Tryz.f59) [.tmp 4] ds
theorem F_ident_Is_eq (ds : List D) : F_ident_Is ds = runG Tryz.prog c_ident_Is (H_ident_Is bigL) an_ident_Is 21 (bodyOf Tryz.f59) [.tmp 4] ds := runG_eq lok_ident_Is _ ds
theorem C_ident_Is (ds : List D) (r : D) (h : F_ident_Is ds = some r) : Contract Tryz.prog gl 59 ds r := contract_of mix Tryz.func59 rfl (by kernel_rfl) (by kernel_rfl) (by decide) (call := c_ident_Is) ⟨callOf_ok cl_ident_Is ⟨C_ident_Split, trivial⟩, callOfE_ok ce_ident_Is trivial⟩ h
-- sawmill/board.isAlong: loops []; state: params 0..0, then [1, 2]
attribute [simp] Tryz.f71
noncomputable def an_board_isAlong : Ann := ⟨[1, 2], [], [], [], [], some [2], [], [], [(39, 0, 51, 2)], []⟩
@[simp] theorem an_board_isAlong_draws : an_board_isAlong.draws = [] := rfl
@[simp] theorem an_board_isAlong_exits : an_board_isAlong.exits = [] := rfl
@[simp] theorem an_board_isAlong_rets : an_board_isAlong.rets = some [2] := rfl
@[simp] theorem an_board_isAlong_keep : an_board_isAlong.keep = [1, 2] := rfl
@[simp] theorem an_board_isAlong_cond : an_board_isAlong.cond = [] := rfl
@[simp] theorem an_board_isAlong_rows : an_board_isAlong.rows = [] := rfl
@[simp] theorem an_board_isAlong_loops : an_board_isAlong.loops = [] := rfl
@[simp] theorem an_board_isAlong_ecalls : an_board_isAlong.ecalls = [] := rfl
@[simp] theorem an_board_isAlong_crows : an_board_isAlong.crows = [(39, 0, 51, 2)] := rfl
@[simp] theorem an_board_isAlong_tails : an_board_isAlong.tails = [] := rfl
@[simp] noncomputable def cl_board_isAlong : List (Nat × (List D → Option D)) := []
@[simp] noncomputable def ce_board_isAlong : List (Nat × (List (Nat × O) → List D → Option (D × List (Nat × O)))) := []
noncomputable def c_board_isAlong : CT := ⟨callOf (cl_board_isAlong ), callOfE ce_board_isAlong, gl⟩
@[simp] theorem c_board_isAlong_p (f : FuncId) (ds : List D) : c_board_isAlong.p f ds = callOf (cl_board_isAlong ) f ds := Eq.trans rfl rfl
@[simp] theorem c_board_isAlong_e (f : FuncId) (hs : List (Nat × O)) (ds : List D) : c_board_isAlong.e f hs ds = callOfE ce_board_isAlong f hs ds := Eq.trans rfl rfl
@[simp] theorem c_board_isAlong_g (g : Nat) : c_board_isAlong.g g = gl g := Eq.trans rfl rfl
noncomputable def L_board_isAlong (i n : Nat) (s : St) : Option (E × St) := atN Tryz.prog c_board_isAlong an_board_isAlong 18 (bodyOf Tryz.f71) i n s
noncomputable def H_board_isAlong (n i : Nat) (s : St) : Option (E × St) := atH Tryz.prog c_board_isAlong an_board_isAlong 18 (bodyOf Tryz.f71) n i s
@[simp] theorem H_board_isAlong_eq (n i : Nat) (s : St) : H_board_isAlong n i s = L_board_isAlong i n (headOf (an_board_isAlong.loops.lookup i) s) := rfl
noncomputable def R_board_isAlong (i : Nat) (s : St) : Option (E × St) := stepL Tryz.prog c_board_isAlong an_board_isAlong 18 (bodyOf Tryz.f71) i s
theorem lok_board_isAlong : okLoops (bodyOf Tryz.f71) = true := by kernel_rfl
noncomputable def F_board_isAlong (ds : List D) : Option D := runF Tryz.prog c_board_isAlong an_board_isAlong 18 (bodyOf Tryz.f71) [.tmp 2] ds
theorem F_board_isAlong_eq (ds : List D) : F_board_isAlong ds = runG Tryz.prog c_board_isAlong (H_board_isAlong bigL) an_board_isAlong 18 (bodyOf Tryz.f71) [.tmp 2] ds := runG_eq lok_board_isAlong _ ds
theorem C_board_isAlong (ds : List D) (r : D) (h : F_board_isAlong ds = some r) : Contract Tryz.prog gl 71 ds r := contract_of mix Tryz.func71 rfl (by kernel_rfl) (by kernel_rfl) (by decide) (call := c_board_isAlong) ⟨callOf_ok cl_board_isAlong trivial, callOfE_ok ce_board_isAlong trivial⟩ h
-- sawmill/board.isBox: loops [2]; state: params 0..0, then [1, 2, 4, 9, 10]
attribute [simp] Tryz.f61
noncomputable def an_board_isBox : Ann := ⟨[1, 2, 4, 9, 10], [11, 27], [], [(2, [1, 9, 10])], [(0, [1]), (1, [1, 9, 10])], some [2], [], [], [(39, 0, 51, 2)], []⟩
@[simp] theorem an_board_isBox_draws : an_board_isBox.draws = [] := rfl
@[simp] theorem an_board_isBox_exits : an_board_isBox.exits = [(0, [1]), (1, [1, 9, 10])] := rfl
@[simp] theorem an_board_isBox_rets : an_board_isBox.rets = some [2] := rfl
@[simp] theorem an_board_isBox_keep : an_board_isBox.keep = [1, 2, 4, 9, 10] := rfl
@[simp] theorem an_board_isBox_cond : an_board_isBox.cond = [11, 27] := rfl
@[simp] theorem an_board_isBox_rows : an_board_isBox.rows = [] := rfl
@[simp] theorem an_board_isBox_loops : an_board_isBox.loops = [(2, [1, 9, 10])] := rfl
@[simp] theorem an_board_isBox_ecalls : an_board_isBox.ecalls = [] := rfl
@[simp] theorem an_board_isBox_crows : an_board_isBox.crows = [(39, 0, 51, 2)] := rfl
@[simp] theorem an_board_isBox_tails : an_board_isBox.tails = [] := rfl
@[simp] noncomputable def cl_board_isBox : List (Nat × (List D → Option D)) := [(71, F_board_isAlong)]
@[simp] noncomputable def ce_board_isBox : List (Nat × (List (Nat × O) → List D → Option (D × List (Nat × O)))) := []
noncomputable def c_board_isBox : CT := ⟨callOf (cl_board_isBox ), callOfE ce_board_isBox, gl⟩
@[simp] theorem c_board_isBox_p (f : FuncId) (ds : List D) : c_board_isBox.p f ds = callOf (cl_board_isBox ) f ds := Eq.trans rfl rfl
@[simp] theorem c_board_isBox_e (f : FuncId) (hs : List (Nat × O)) (ds : List D) : c_board_isBox.e f hs ds = callOfE ce_board_isBox f hs ds := Eq.trans rfl rfl
@[simp] theorem c_board_isBox_g (g : Nat) : c_board_isBox.g g = gl g := Eq.trans rfl rfl
noncomputable def L_board_isBox (i n : Nat) (s : St) : Option (E × St) := atN Tryz.prog c_board_isBox an_board_isBox 32 (bodyOf Tryz.f61) i n s
noncomputable def H_board_isBox (n i : Nat) (s : St) : Option (E × St) := atH Tryz.prog c_board_isBox an_board_isBox 32 (bodyOf Tryz.f61) n i s
@[simp] theorem H_board_isBox_eq (n i : Nat) (s : St) : H_board_isBox n i s = L_board_isBox i n (headOf (an_board_isBox.loops.lookup i) s) := rfl
noncomputable def R_board_isBox (i : Nat) (s : St) : Option (E × St) := stepL Tryz.prog c_board_isBox an_board_isBox 32 (bodyOf Tryz.f61) i s
theorem lok_board_isBox : okLoops (bodyOf Tryz.f61) = true := by kernel_rfl
theorem L_board_isBox_zero (i : Nat) (s : St) : L_board_isBox i 0 s = none := rfl
theorem L_board_isBox_succ (i n : Nat) (s : St) : L_board_isBox i (n + 1) s = andThen (R_board_isBox i s) (H_board_isBox n i) := atN_succ lok_board_isBox i n s
theorem R_board_isBox_eq (i : Nat) (s : St) : R_board_isBox i s = runS Tryz.prog c_board_isBox (H_board_isBox bigL) an_board_isBox 32 (loopAt (bodyOf Tryz.f61) i) s := rfl
noncomputable def F_board_isBox (ds : List D) : Option D := runF Tryz.prog c_board_isBox an_board_isBox 32 (bodyOf Tryz.f61) [.tmp 2] ds
theorem F_board_isBox_eq (ds : List D) : F_board_isBox ds = runG Tryz.prog c_board_isBox (H_board_isBox bigL) an_board_isBox 32 (bodyOf Tryz.f61) [.tmp 2] ds := runG_eq lok_board_isBox _ ds
theorem C_board_isBox (ds : List D) (r : D) (h : F_board_isBox ds = some r) : Contract Tryz.prog gl 61 ds r := contract_of mix Tryz.func61 rfl (by kernel_rfl) (by kernel_rfl) (by decide) (call := c_board_isBox) ⟨callOf_ok cl_board_isBox ⟨C_board_isAlong, trivial⟩, callOfE_ok ce_board_isBox trivial⟩ h
-- sawmill/board.length: loops []; state: params 0..0, then [1, 2]
attribute [simp] Tryz.f62
noncomputable def an_board_length : Ann := ⟨[1, 2], [], [], [], [], some [2], [], [], [(39, 0, 51, 2)], []⟩
@[simp] theorem an_board_length_draws : an_board_length.draws = [] := rfl
@[simp] theorem an_board_length_exits : an_board_length.exits = [] := rfl
@[simp] theorem an_board_length_rets : an_board_length.rets = some [2] := rfl
@[simp] theorem an_board_length_keep : an_board_length.keep = [1, 2] := rfl
@[simp] theorem an_board_length_cond : an_board_length.cond = [] := rfl
@[simp] theorem an_board_length_rows : an_board_length.rows = [] := rfl
@[simp] theorem an_board_length_loops : an_board_length.loops = [] := rfl
@[simp] theorem an_board_length_ecalls : an_board_length.ecalls = [] := rfl
@[simp] theorem an_board_length_crows : an_board_length.crows = [(39, 0, 51, 2)] := rfl
@[simp] theorem an_board_length_tails : an_board_length.tails = [] := rfl
@[simp] noncomputable def cl_board_length : List (Nat × (List D → Option D)) := []
@[simp] noncomputable def ce_board_length : List (Nat × (List (Nat × O) → List D → Option (D × List (Nat × O)))) := []
noncomputable def c_board_length : CT := ⟨callOf (cl_board_length ), callOfE ce_board_length, gl⟩
@[simp] theorem c_board_length_p (f : FuncId) (ds : List D) : c_board_length.p f ds = callOf (cl_board_length ) f ds := Eq.trans rfl rfl
@[simp] theorem c_board_length_e (f : FuncId) (hs : List (Nat × O)) (ds : List D) : c_board_length.e f hs ds = callOfE ce_board_length f hs ds := Eq.trans rfl rfl
@[simp] theorem c_board_length_g (g : Nat) : c_board_length.g g = gl g := Eq.trans rfl rfl
noncomputable def L_board_length (i n : Nat) (s : St) : Option (E × St) := atN Tryz.prog c_board_length an_board_length 8 (bodyOf Tryz.f62) i n s
noncomputable def H_board_length (n i : Nat) (s : St) : Option (E × St) := atH Tryz.prog c_board_length an_board_length 8 (bodyOf Tryz.f62) n i s
@[simp] theorem H_board_length_eq (n i : Nat) (s : St) : H_board_length n i s = L_board_length i n (headOf (an_board_length.loops.lookup i) s) := rfl
noncomputable def R_board_length (i : Nat) (s : St) : Option (E × St) := stepL Tryz.prog c_board_length an_board_length 8 (bodyOf Tryz.f62) i s
theorem lok_board_length : okLoops (bodyOf Tryz.f62) = true := by kernel_rfl
noncomputable def F_board_length (ds : List D) : Option D := runF Tryz.prog c_board_length an_board_length 8 (bodyOf Tryz.f62) [.tmp 2] ds
theorem F_board_length_eq (ds : List D) : F_board_length ds = runG Tryz.prog c_board_length (H_board_length bigL) an_board_length 8 (bodyOf Tryz.f62) [.tmp 2] ds := runG_eq lok_board_length _ ds
theorem C_board_length (ds : List D) (r : D) (h : F_board_length ds = some r) : Contract Tryz.prog gl 62 ds r := contract_of mix Tryz.func62 rfl (by kernel_rfl) (by kernel_rfl) (by decide) (call := c_board_length) ⟨callOf_ok cl_board_length trivial, callOfE_ok ce_board_length trivial⟩ h
-- slices.Index[[]int,int]: loops [2]; state: params 0..1, then [4, 5, 7, 8]
attribute [simp] Tryz.f99
noncomputable def an_slices_Index_int_int : Ann := ⟨[0, 4, 5, 7, 8], [9, 16], [], [(2, [0, 1, 7, 8])], [(0, []), (1, [0, 1, 7, 8])], some [4], [], [], [(39, 0, 51, 2)], []⟩
@[simp] theorem an_slices_Index_int_int_draws : an_slices_Index_int_int.draws = [] := rfl
@[simp] theorem an_slices_Index_int_int_exits : an_slices_Index_int_int.exits = [(0, []), (1, [0, 1, 7, 8])] := rfl
@[simp] theorem an_slices_Index_int_int_rets : an_slices_Index_int_int.rets = some [4] := rfl
@[simp] theorem an_slices_Index_int_int_keep : an_slices_Index_int_int.keep = [0, 4, 5, 7, 8] := rfl
@[simp] theorem an_slices_Index_int_int_cond : an_slices_Index_int_int.cond = [9, 16] := rfl
@[simp] theorem an_slices_Index_int_int_rows : an_slices_Index_int_int.rows = [] := rfl
@[simp] theorem an_slices_Index_int_int_loops : an_slices_Index_int_int.loops = [(2, [0, 1, 7, 8])] := rfl
@[simp] theorem an_slices_Index_int_int_ecalls : an_slices_Index_int_int.ecalls = [] := rfl
@[simp] theorem an_slices_Index_int_int_crows : an_slices_Index_int_int.crows = [(39, 0, 51, 2)] := rfl
@[simp] theorem an_slices_Index_int_int_tails : an_slices_Index_int_int.tails = [] := rfl
@[simp] noncomputable def cl_slices_Index_int_int : List (Nat × (List D → Option D)) := []
@[simp] noncomputable def ce_slices_Index_int_int : List (Nat × (List (Nat × O) → List D → Option (D × List (Nat × O)))) := []
noncomputable def c_slices_Index_int_int : CT := ⟨callOf (cl_slices_Index_int_int ), callOfE ce_slices_Index_int_int, gl⟩
@[simp] theorem c_slices_Index_int_int_p (f : FuncId) (ds : List D) : c_slices_Index_int_int.p f ds = callOf (cl_slices_Index_int_int ) f ds := Eq.trans rfl rfl
@[simp] theorem c_slices_Index_int_int_e (f : FuncId) (hs : List (Nat × O)) (ds : List D) : c_slices_Index_int_int.e f hs ds = callOfE ce_slices_Index_int_int f hs ds := Eq.trans rfl rfl
@[simp] theorem c_slices_Index_int_int_g (g : Nat) : c_slices_Index_int_int.g g = gl g := Eq.trans rfl rfl
noncomputable def L_slices_Index_int_int (i n : Nat) (s : St) : Option (E × St) := atN Tryz.prog c_slices_Index_int_int an_slices_Index_int_int 19 (bodyOf Tryz.f99) i n s
noncomputable def H_slices_Index_int_int (n i : Nat) (s : St) : Option (E × St) := atH Tryz.prog c_slices_Index_int_int an_slices_Index_int_int 19 (bodyOf Tryz.f99) n i s
@[simp] theorem H_slices_Index_int_int_eq (n i : Nat) (s : St) : H_slices_Index_int_int n i s = L_slices_Index_int_int i n (headOf (an_slices_Index_int_int.loops.lookup i) s) := rfl
noncomputable def R_slices_Index_int_int (i : Nat) (s : St) : Option (E × St) := stepL Tryz.prog c_slices_Index_int_int an_slices_Index_int_int 19 (bodyOf Tryz.f99) i s
theorem lok_slices_Index_int_int : okLoops (bodyOf Tryz.f99) = true := by kernel_rfl
theorem L_slices_Index_int_int_zero (i : Nat) (s : St) : L_slices_Index_int_int i 0 s = none := rfl
theorem L_slices_Index_int_int_succ (i n : Nat) (s : St) : L_slices_Index_int_int i (n + 1) s = andThen (R_slices_Index_int_int i s) (H_slices_Index_int_int n i) := atN_succ lok_slices_Index_int_int i n s
theorem R_slices_Index_int_int_eq (i : Nat) (s : St) : R_slices_Index_int_int i s = runS Tryz.prog c_slices_Index_int_int (H_slices_Index_int_int bigL) an_slices_Index_int_int 19 (loopAt (bodyOf Tryz.f99) i) s := rfl
noncomputable def F_slices_Index_int_int (ds : List D) : Option D := runF Tryz.prog c_slices_Index_int_int an_slices_Index_int_int 19 (bodyOf Tryz.f99) [.tmp 4] ds
theorem F_slices_Index_int_int_eq (ds : List D) : F_slices_Index_int_int ds = runG Tryz.prog c_slices_Index_int_int (H_slices_Index_int_int bigL) an_slices_Index_int_int 19 (bodyOf Tryz.f99) [.tmp 4] ds := runG_eq lok_slices_Index_int_int _ ds
theorem C_slices_Index_int_int (ds : List D) (r : D) (h : F_slices_Index_int_int ds = some r) : Contract Tryz.prog gl 99 ds r := contract_of mix Tryz.func99 rfl (by kernel_rfl) (by kernel_rfl) (by decide) (call := c_slices_Index_int_int) ⟨callOf_ok cl_slices_Index_int_int trivial, callOfE_ok ce_slices_Index_int_int trivial⟩ h
-- slices.Contains[[]int,int]: loops []; state: params 0..1, then [4]
attribute [simp] Tryz.f64
noncomputable def an_slices_Contains_int_int : Ann := ⟨[4], [], [], [], [], some [4], [], [], [(39, 0, 51, 2)], []⟩
@[simp] theorem an_slices_Contains_int_int_draws : an_slices_Contains_int_int.draws = [] := rfl
@[simp] theorem an_slices_Contains_int_int_exits : an_slices_Contains_int_int.exits = [] := rfl
@[simp] theorem an_slices_Contains_int_int_rets : an_slices_Contains_int_int.rets = some [4] := rfl
@[simp] theorem an_slices_Contains_int_int_keep : an_slices_Contains_int_int.keep = [4] := rfl
@[simp] theorem an_slices_Contains_int_int_cond : an_slices_Contains_int_int.cond = [] := rfl
@[simp] theorem an_slices_Contains_int_int_rows : an_slices_Contains_int_int.rows = [] := rfl
@[simp] theorem an_slices_Contains_int_int_loops : an_slices_Contains_int_int.loops = [] := rfl
@[simp] theorem an_slices_Contains_int_int_ecalls : an_slices_Contains_int_int.ecalls = [] := rfl
@[simp] theorem an_slices_Contains_int_int_crows : an_slices_Contains_int_int.crows = [(39, 0, 51, 2)] := rfl
@[simp] theorem an_slices_Contains_int_int_tails : an_slices_Contains_int_int.tails = [] := rfl
@[simp] noncomputable def cl_slices_Contains_int_int : List (Nat × (List D → Option D)) := [(99, F_slices_Index_int_int)]
@[simp] noncomputable def ce_slices_Contains_int_int : List (Nat × (List (Nat × O) → List D → Option (D × List (Nat × O)))) := []
noncomputable def c_slices_Contains_int_int : CT := ⟨callOf (cl_slices_Contains_int_int ), callOfE ce_slices_Contains_int_int, gl⟩
@[simp] theorem c_slices_Contains_int_int_p (f : FuncId) (ds : List D) : c_slices_Contains_int_int.p f ds = callOf (cl_slices_Contains_int_int ) f ds := Eq.trans rfl rfl
@[simp] theorem c_slices_Contains_int_int_e (f : FuncId) (hs : List (Nat × O)) (ds : List D) : c_slices_Contains_int_int.e f hs ds = callOfE ce_slices_Contains_int_int f hs ds := Eq.trans rfl rfl
@[simp] theorem c_slices_Contains_int_int_g (g : Nat) : c_slices_Contains_int_int.g g = gl g := Eq.trans rfl rfl
noncomputable def L_slices_Contains_int_int (i n : Nat) (s : St) : Option (E × St) := atN Tryz.prog c_slices_Contains_int_int an_slices_Contains_int_int 9 (bodyOf Tryz.f64) i n s
noncomputable def H_slices_Contains_int_int (n i : Nat) (s : St) : Option (E × St) := atH Tryz.prog c_slices_Contains_int_int an_slices_Contains_int_int 9 (bodyOf Tryz.f64) n i s
@[simp] theorem H_slices_Contains_int_int_eq (n i : Nat) (s : St) : H_slices_Contains_int_int n i s = L_slices_Contains_int_int i n (headOf (an_slices_Contains_int_int.loops.lookup i) s) := rfl
noncomputable def R_slices_Contains_int_int (i : Nat) (s : St) : Option (E × St) := stepL Tryz.prog c_slices_Contains_int_int an_slices_Contains_int_int 9 (bodyOf Tryz.f64) i s
theorem lok_slices_Contains_int_int : okLoops (bodyOf Tryz.f64) = true := by kernel_rfl
noncomputable def F_slices_Contains_int_int (ds : List D) : Option D := runF Tryz.prog c_slices_Contains_int_int an_slices_Contains_int_int 9 (bodyOf Tryz.f64) [.tmp 4] ds
theorem F_slices_Contains_int_int_eq (ds : List D) : F_slices_Contains_int_int ds = runG Tryz.prog c_slices_Contains_int_int (H_slices_Contains_int_int bigL) an_slices_Contains_int_int 9 (bodyOf Tryz.f64) [.tmp 4] ds := runG_eq lok_slices_Contains_int_int _ ds
theorem C_slices_Contains_int_int (ds : List D) (r : D) (h : F_slices_Contains_int_int ds = some r) : Contract Tryz.prog gl 64 ds r := contract_of mix Tryz.func64 rfl (by kernel_rfl) (by kernel_rfl) (by decide) (call := c_slices_Contains_int_int) ⟨callOf_ok cl_slices_Contains_int_int ⟨C_slices_Index_int_int, trivial⟩, callOfE_ok ce_slices_Contains_int_int trivial⟩ h
-- sawmill/defect.isEmpty: loops []; state: params 0..0, then [1, 2]
attribute [simp] Tryz.f74
noncomputable def an_defect_isEmpty : Ann := ⟨[1, 2], [], [], [], [], some [2], [], [], [(39, 0, 51, 2)], []⟩
@[simp] theorem an_defect_isEmpty_draws : an_defect_isEmpty.draws = [] := rfl
@[simp] theorem an_defect_isEmpty_exits : an_defect_isEmpty.exits = [] := rfl
@[simp] theorem an_defect_isEmpty_rets : an_defect_isEmpty.rets = some [2] := rfl
@[simp] theorem an_defect_isEmpty_keep : an_defect_isEmpty.keep = [1, 2] := rfl
@[simp] theorem an_defect_isEmpty_cond : an_defect_isEmpty.cond = [] := rfl
@[simp] theorem an_defect_isEmpty_rows : an_defect_isEmpty.rows = [] := rfl
@[simp] theorem an_defect_isEmpty_loops : an_defect_isEmpty.loops = [] := rfl
@[simp] theorem an_defect_isEmpty_ecalls : an_defect_isEmpty.ecalls = [] := rfl
@[simp] theorem an_defect_isEmpty_crows : an_defect_isEmpty.crows = [(39, 0, 51, 2)] := rfl
@[simp] theorem an_defect_isEmpty_tails : an_defect_isEmpty.tails = [] := rfl
@[simp] noncomputable def cl_defect_isEmpty : List (Nat × (List D → Option D)) := []
@[simp] noncomputable def ce_defect_isEmpty : List (Nat × (List (Nat × O) → List D → Option (D × List (Nat × O)))) := []
noncomputable def c_defect_isEmpty : CT := ⟨callOf (cl_defect_isEmpty ), callOfE ce_defect_isEmpty, gl⟩
@[simp] theorem c_defect_isEmpty_p (f : FuncId) (ds : List D) : c_defect_isEmpty.p f ds = callOf (cl_defect_isEmpty ) f ds := Eq.trans rfl rfl
@[simp] theorem c_defect_isEmpty_e (f : FuncId) (hs : List (Nat × O)) (ds : List D) : c_defect_isEmpty.e f hs ds = callOfE ce_defect_isEmpty f hs ds := Eq.trans rfl rfl
@[simp] theorem c_defect_isEmpty_g (g : Nat) : c_defect_isEmpty.g g = gl g := Eq.trans rfl rfl
noncomputable def L_defect_isEmpty (i n : Nat) (s : St) : Option (E × St) := atN Tryz.prog c_defect_isEmpty an_defect_isEmpty 8 (bodyOf Tryz.f74) i n s
noncomputable def H_defect_isEmpty (n i : Nat) (s : St) : Option (E × St) := atH Tryz.prog c_defect_isEmpty an_defect_isEmpty 8 (bodyOf Tryz.f74) n i s
@[simp] theorem H_defect_isEmpty_eq (n i : Nat) (s : St) : H_defect_isEmpty n i s = L_defect_isEmpty i n (headOf (an_defect_isEmpty.loops.lookup i) s) := rfl
noncomputable def R_defect_isEmpty (i : Nat) (s : St) : Option (E × St) := stepL Tryz.prog c_defect_isEmpty an_defect_isEmpty 8 (bodyOf Tryz.f74) i s
theorem lok_defect_isEmpty : okLoops (bodyOf Tryz.f74) = true := by kernel_rfl
noncomputable def F_defect_isEmpty (ds : List D) : Option D := runF Tryz.prog c_defect_isEmpty an_defect_isEmpty 8 (bodyOf Tryz.f74) [.tmp 2] ds
theorem F_defect_isEmpty_eq (ds : List D) : F_defect_isEmpty ds = runG Tryz.prog c_defect_isEmpty (H_defect_isEmpty bigL) an_defect_isEmpty 8 (bodyOf Tryz.f74) [.tmp 2] ds := runG_eq lok_defect_isEmpty _ ds
theorem C_defect_isEmpty (ds : List D) (r : D) (h : F_defect_isEmpty ds = some r) : Contract Tryz.prog gl 74 ds r := contract_of mix Tryz.func74 rfl (by kernel_rfl) (by kernel_rfl) (by decide) (call := c_defect_isEmpty) ⟨callOf_ok cl_defect_isEmpty trivial, callOfE_ok ce_defect_isEmpty trivial⟩ h
-- sawmill/defect.inside: loops []; state: params 0..2, then [3, 6]
attribute [simp] Tryz.f112
noncomputable def an_defect_inside : Ann := ⟨[3, 6], [], [], [], [], some [6], [], [], [(39, 0, 51, 2)], []⟩
@[simp] theorem an_defect_inside_draws : an_defect_inside.draws = [] := rfl
@[simp] theorem an_defect_inside_exits : an_defect_inside.exits = [] := rfl
@[simp] theorem an_defect_inside_rets : an_defect_inside.rets = some [6] := rfl
@[simp] theorem an_defect_inside_keep : an_defect_inside.keep = [3, 6] := rfl
@[simp] theorem an_defect_inside_cond : an_defect_inside.cond = [] := rfl
@[simp] theorem an_defect_inside_rows : an_defect_inside.rows = [] := rfl
@[simp] theorem an_defect_inside_loops : an_defect_inside.loops = [] := rfl
@[simp] theorem an_defect_inside_ecalls : an_defect_inside.ecalls = [] := rfl
@[simp] theorem an_defect_inside_crows : an_defect_inside.crows = [(39, 0, 51, 2)] := rfl
@[simp] theorem an_defect_inside_tails : an_defect_inside.tails = [] := rfl
@[simp] noncomputable def cl_defect_inside : List (Nat × (List D → Option D)) := []
@[simp] noncomputable def ce_defect_inside : List (Nat × (List (Nat × O) → List D → Option (D × List (Nat × O)))) := []
noncomputable def c_defect_inside : CT := ⟨callOf (cl_defect_inside ), callOfE ce_defect_inside, gl⟩
@[simp] theorem c_defect_inside_p (f : FuncId) (ds : List D) : c_defect_inside.p f ds = callOf (cl_defect_inside ) f ds := Eq.trans rfl rfl
@[simp] theorem c_defect_inside_e (f : FuncId) (hs : List (Nat × O)) (ds : List D) : c_defect_inside.e f hs ds = callOfE ce_defect_inside f hs ds := Eq.trans rfl rfl
@[simp] theorem c_defect_inside_g (g : Nat) : c_defect_inside.g g = gl g := Eq.trans rfl rfl
noncomputable def L_defect_inside (i n : Nat) (s : St) : Option (E × St) := atN Tryz.prog c_defect_inside an_defect_inside 23 (bodyOf Tryz.f112) i n s
noncomputable def H_defect_inside (n i : Nat) (s : St) : Option (E × St) := atH Tryz.prog c_defect_inside an_defect_inside 23 (bodyOf Tryz.f112) n i s
@[simp] theorem H_defect_inside_eq (n i : Nat) (s : St) : H_defect_inside n i s = L_defect_inside i n (headOf (an_defect_inside.loops.lookup i) s) := rfl
noncomputable def R_defect_inside (i : Nat) (s : St) : Option (E × St) := stepL Tryz.prog c_defect_inside an_defect_inside 23 (bodyOf Tryz.f112) i s
theorem lok_defect_inside : okLoops (bodyOf Tryz.f112) = true := by kernel_rfl
noncomputable def F_defect_inside (ds : List D) : Option D := runF Tryz.prog c_defect_inside an_defect_inside 23 (bodyOf Tryz.f112) [.tmp 6] ds
theorem F_defect_inside_eq (ds : List D) : F_defect_inside ds = runG Tryz.prog c_defect_inside (H_defect_inside bigL) an_defect_inside 23 (bodyOf Tryz.f112) [.tmp 6] ds := runG_eq lok_defect_inside _ ds
theorem C_defect_inside (ds : List D) (r : D) (h : F_defect_inside ds = some r) : Contract Tryz.prog gl 112 ds r := contract_of mix Tryz.func112 rfl (by kernel_rfl) (by kernel_rfl) (by decide) (call := c_defect_inside) ⟨callOf_ok cl_defect_inside trivial, callOfE_ok ce_defect_inside trivial⟩ h
-- sawmill/defect.check: loops []; state: params 0..0, then [1, 2, 3]
attribute [simp] Tryz.f100
noncomputable def an_defect_check : Ann := ⟨[1, 2, 3], [6, 15, 29], [], [], [(0, [])], some [2], [], [], [(39, 0, 51, 2)], []⟩
@[simp] theorem an_defect_check_draws : an_defect_check.draws = [] := rfl
@[simp] theorem an_defect_check_exits : an_defect_check.exits = [(0, [])] := rfl
@[simp] theorem an_defect_check_rets : an_defect_check.rets = some [2] := rfl
@[simp] theorem an_defect_check_keep : an_defect_check.keep = [1, 2, 3] := rfl
@[simp] theorem an_defect_check_cond : an_defect_check.cond = [6, 15, 29] := rfl
@[simp] theorem an_defect_check_rows : an_defect_check.rows = [] := rfl
@[simp] theorem an_defect_check_loops : an_defect_check.loops = [] := rfl
@[simp] theorem an_defect_check_ecalls : an_defect_check.ecalls = [] := rfl
@[simp] theorem an_defect_check_crows : an_defect_check.crows = [(39, 0, 51, 2)] := rfl
@[simp] theorem an_defect_check_tails : an_defect_check.tails = [] := rfl
@[simp] noncomputable def cl_defect_check : List (Nat × (List D → Option D)) := [(74, F_defect_isEmpty), (112, F_defect_inside)]
@[simp] noncomputable def ce_defect_check : List (Nat × (List (Nat × O) → List D → Option (D × List (Nat × O)))) := []
noncomputable def c_defect_check : CT := ⟨callOf (cl_defect_check ), callOfE ce_defect_check, gl⟩
@[simp] theorem c_defect_check_p (f : FuncId) (ds : List D) : c_defect_check.p f ds = callOf (cl_defect_check ) f ds := Eq.trans rfl rfl
@[simp] theorem c_defect_check_e (f : FuncId) (hs : List (Nat × O)) (ds : List D) : c_defect_check.e f hs ds = callOfE ce_defect_check f hs ds := Eq.trans rfl rfl
@[simp] theorem c_defect_check_g (g : Nat) : c_defect_check.g g = gl g := Eq.trans rfl rfl
noncomputable def L_defect_check (i n : Nat) (s : St) : Option (E × St) := atN Tryz.prog c_defect_check an_defect_check 46 (bodyOf Tryz.f100) i n s
noncomputable def H_defect_check (n i : Nat) (s : St) : Option (E × St) := atH Tryz.prog c_defect_check an_defect_check 46 (bodyOf Tryz.f100) n i s
@[simp] theorem H_defect_check_eq (n i : Nat) (s : St) : H_defect_check n i s = L_defect_check i n (headOf (an_defect_check.loops.lookup i) s) := rfl
noncomputable def R_defect_check (i : Nat) (s : St) : Option (E × St) := stepL Tryz.prog c_defect_check an_defect_check 46 (bodyOf Tryz.f100) i s
theorem lok_defect_check : okLoops (bodyOf Tryz.f100) = true := by kernel_rfl
noncomputable def F_defect_check (ds : List D) : Option D := runF Tryz.prog c_defect_check an_defect_check 46 (bodyOf Tryz.f100) [.tmp 2] ds
theorem F_defect_check_eq (ds : List D) : F_defect_check ds = runG Tryz.prog c_defect_check (H_defect_check bigL) an_defect_check 46 (bodyOf Tryz.f100) [.tmp 2] ds := runG_eq lok_defect_check _ ds
theorem C_defect_check (ds : List D) (r : D) (h : F_defect_check ds = some r) : Contract Tryz.prog gl 100 ds r := contract_of mix Tryz.func100 rfl (by kernel_rfl) (by kernel_rfl) (by decide) (call := c_defect_check) ⟨callOf_ok cl_defect_check ⟨C_defect_isEmpty, C_defect_inside, trivial⟩, callOfE_ok ce_defect_check trivial⟩ h
-- sawmill/defect.Check: loops [4]; state: params 0..0, then [2, 4, 5, 9, 10, 11]
attribute [simp] Tryz.f65
noncomputable def an_defect_Check : Ann := ⟨[0, 2, 4, 5, 9, 10, 11], [8, 12, 18], [], [(4, [9, 10, 11])], [(0, []), (1, [9, 10, 11])], some [2], [], [], [(39, 0, 51, 2)], []⟩
@[simp] theorem an_defect_Check_draws : an_defect_Check.draws = [] := rfl
@[simp] theorem an_defect_Check_exits : an_defect_Check.exits = [(0, []), (1, [9, 10, 11])] := rfl
@[simp] theorem an_defect_Check_rets : an_defect_Check.rets = some [2] := rfl
@[simp] theorem an_defect_Check_keep : an_defect_Check.keep = [0, 2, 4, 5, 9, 10, 11] := rfl
@[simp] theorem an_defect_Check_cond : an_defect_Check.cond = [8, 12, 18] := rfl
@[simp] theorem an_defect_Check_rows : an_defect_Check.rows = [] := rfl
@[simp] theorem an_defect_Check_loops : an_defect_Check.loops = [(4, [9, 10, 11])] := rfl
@[simp] theorem an_defect_Check_ecalls : an_defect_Check.ecalls = [] := rfl
@[simp] theorem an_defect_Check_crows : an_defect_Check.crows = [(39, 0, 51, 2)] := rfl
@[simp] theorem an_defect_Check_tails : an_defect_Check.tails = [] := rfl
@[simp] noncomputable def cl_defect_Check : List (Nat × (List D → Option D)) := [(100, F_defect_check)]
@[simp] noncomputable def ce_defect_Check : List (Nat × (List (Nat × O) → List D → Option (D × List (Nat × O)))) := []
noncomputable def c_defect_Check : CT := ⟨callOf (cl_defect_Check ), callOfE ce_defect_Check, gl⟩
@[simp] theorem c_defect_Check_p (f : FuncId) (ds : List D) : c_defect_Check.p f ds = callOf (cl_defect_Check ) f ds := Eq.trans rfl rfl
@[simp] theorem c_defect_Check_e (f : FuncId) (hs : List (Nat × O)) (ds : List D) : c_defect_Check.e f hs ds = callOfE ce_defect_Check f hs ds := Eq.trans rfl rfl
@[simp] theorem c_defect_Check_g (g : Nat) : c_defect_Check.g g = gl g := Eq.trans rfl rfl
noncomputable def L_defect_Check (i n : Nat) (s : St) : Option (E × St) := atN Tryz.prog c_defect_Check an_defect_Check 21 (bodyOf Tryz.f65) i n s
noncomputable def H_defect_Check (n i : Nat) (s : St) : Option (E × St) := atH Tryz.prog c_defect_Check an_defect_Check 21 (bodyOf Tryz.f65) n i s
@[simp] theorem H_defect_Check_eq (n i : Nat) (s : St) : H_defect_Check n i s = L_defect_Check i n (headOf (an_defect_Check.loops.lookup i) s) := rfl
noncomputable def R_defect_Check (i : Nat) (s : St) : Option (E × St) := stepL Tryz.prog c_defect_Check an_defect_Check 21 (bodyOf Tryz.f65) i s
theorem lok_defect_Check : okLoops (bodyOf Tryz.f65) = true := by kernel_rfl
theorem L_defect_Check_zero (i : Nat) (s : St) : L_defect_Check i 0 s = none := rfl
theorem L_defect_Check_succ (i n : Nat) (s : St) : L_defect_Check i (n + 1) s = andThen (R_defect_Check i s) (H_defect_Check n i) := atN_succ lok_defect_Check i n s
theorem R_defect_Check_eq (i : Nat) (s : St) : R_defect_Check i s = runS Tryz.prog c_defect_Check (H_defect_Check bigL) an_defect_Check 21 (loopAt (bodyOf Tryz.f65) i) s := rfl
noncomputable def F_defect_Check (ds : List D) : Option D := runF Tryz.prog c_defect_Check an_defect_Check 21 (bodyOf Tryz.f65) [.tmp 2] ds
theorem F_defect_Check_eq (ds : List D) : F_defect_Check ds = runG Tryz.prog c_defect_Check (H_defect_Check bigL) an_defect_Check 21 (bodyOf Tryz.f65) [.tmp 2] ds := runG_eq lok_defect_Check _ ds
theorem C_defect_Check (ds : List D) (r : D) (h : F_defect_Check ds = some r) : Contract Tryz.prog gl 65 ds r := contract_of mix Tryz.func65 rfl (by kernel_rfl) (by kernel_rfl) (by decide) (call := c_defect_Check) ⟨callOf_ok cl_defect_Check ⟨C_defect_check, trivial⟩, callOfE_ok ce_defect_Check trivial⟩ h
-- sawmill/board.inside: loops []; state: params 0..1, then [2, 4]
attribute [simp] Tryz.f66
noncomputable def an_board_inside : Ann := ⟨[2, 4], [], [], [], [], some [4], [], [], [(39, 0, 51, 2)], []⟩
@[simp] theorem an_board_inside_draws : an_board_inside.draws = [] := rfl
@[simp] theorem an_board_inside_exits : an_board_inside.exits = [] := rfl
@[simp] theorem an_board_inside_rets : an_board_inside.rets = some [4] := rfl
@[simp] theorem an_board_inside_keep : an_board_inside.keep = [2, 4] := rfl
@[simp] theorem an_board_inside_cond : an_board_inside.cond = [] := rfl
@[simp] theorem an_board_inside_rows : an_board_inside.rows = [] := rfl
@[simp] theorem an_board_inside_loops : an_board_inside.loops = [] := rfl
@[simp] theorem an_board_inside_ecalls : an_board_inside.ecalls = [] := rfl
@[simp] theorem an_board_inside_crows : an_board_inside.crows = [(39, 0, 51, 2)] := rfl
@[simp] theorem an_board_inside_tails : an_board_inside.tails = [] := rfl
@[simp] noncomputable def cl_board_inside : List (Nat × (List D → Option D)) := []
@[simp] noncomputable def ce_board_inside : List (Nat × (List (Nat × O) → List D → Option (D × List (Nat × O)))) := []
noncomputable def c_board_inside : CT := ⟨callOf (cl_board_inside ), callOfE ce_board_inside, gl⟩
@[simp] theorem c_board_inside_p (f : FuncId) (ds : List D) : c_board_inside.p f ds = callOf (cl_board_inside ) f ds := Eq.trans rfl rfl
@[simp] theorem c_board_inside_e (f : FuncId) (hs : List (Nat × O)) (ds : List D) : c_board_inside.e f hs ds = callOfE ce_board_inside f hs ds := Eq.trans rfl rfl
@[simp] theorem c_board_inside_g (g : Nat) : c_board_inside.g g = gl g := Eq.trans rfl rfl
noncomputable def L_board_inside (i n : Nat) (s : St) : Option (E × St) := atN Tryz.prog c_board_inside an_board_inside 25 (bodyOf Tryz.f66) i n s
noncomputable def H_board_inside (n i : Nat) (s : St) : Option (E × St) := atH Tryz.prog c_board_inside an_board_inside 25 (bodyOf Tryz.f66) n i s
@[simp] theorem H_board_inside_eq (n i : Nat) (s : St) : H_board_inside n i s = L_board_inside i n (headOf (an_board_inside.loops.lookup i) s) := rfl
noncomputable def R_board_inside (i : Nat) (s : St) : Option (E × St) := stepL Tryz.prog c_board_inside an_board_inside 25 (bodyOf Tryz.f66) i s
theorem lok_board_inside : okLoops (bodyOf Tryz.f66) = true := by kernel_rfl
noncomputable def F_board_inside (ds : List D) : Option D := runF Tryz.prog c_board_inside an_board_inside 25 (bodyOf Tryz.f66) [.tmp 4] ds
theorem F_board_inside_eq (ds : List D) : F_board_inside ds = runG Tryz.prog c_board_inside (H_board_inside bigL) an_board_inside 25 (bodyOf Tryz.f66) [.tmp 4] ds := runG_eq lok_board_inside _ ds
theorem C_board_inside (ds : List D) (r : D) (h : F_board_inside ds = some r) : Contract Tryz.prog gl 66 ds r := contract_of mix Tryz.func66 rfl (by kernel_rfl) (by kernel_rfl) (by decide) (call := c_board_inside) ⟨callOf_ok cl_board_inside trivial, callOfE_ok ce_board_inside trivial⟩ h
-- sawmill/board.Volume: loops []; state: params 0..0, then [1, 2]
attribute [simp] Tryz.f67
noncomputable def an_board_Volume : Ann := ⟨[1, 2], [6], [], [], [], some [2], [(3, 13)], [], [(39, 0, 51, 2)], []⟩
@[simp] theorem an_board_Volume_draws : an_board_Volume.draws = [(3, 13)] := rfl
@[simp] theorem an_board_Volume_exits : an_board_Volume.exits = [] := rfl
@[simp] theorem an_board_Volume_rets : an_board_Volume.rets = some [2] := rfl
@[simp] theorem an_board_Volume_keep : an_board_Volume.keep = [1, 2] := rfl
@[simp] theorem an_board_Volume_cond : an_board_Volume.cond = [6] := rfl
@[simp] theorem an_board_Volume_rows : an_board_Volume.rows = [] := rfl
@[simp] theorem an_board_Volume_loops : an_board_Volume.loops = [] := rfl
@[simp] theorem an_board_Volume_ecalls : an_board_Volume.ecalls = [] := rfl
@[simp] theorem an_board_Volume_crows : an_board_Volume.crows = [(39, 0, 51, 2)] := rfl
@[simp] theorem an_board_Volume_tails : an_board_Volume.tails = [] := rfl
@[simp] noncomputable def cl_board_Volume : List (Nat × (List D → Option D)) := [(61, F_board_isBox), (62, F_board_length)]
@[simp] noncomputable def ce_board_Volume : List (Nat × (List (Nat × O) → List D → Option (D × List (Nat × O)))) := []
noncomputable def c_board_Volume : CT := ⟨callOf (cl_board_Volume ), callOfE ce_board_Volume, gl⟩
@[simp] theorem c_board_Volume_p (f : FuncId) (ds : List D) : c_board_Volume.p f ds = callOf (cl_board_Volume ) f ds := Eq.trans rfl rfl
@[simp] theorem c_board_Volume_e (f : FuncId) (hs : List (Nat × O)) (ds : List D) : c_board_Volume.e f hs ds = callOfE ce_board_Volume f hs ds := Eq.trans rfl rfl
@[simp] theorem c_board_Volume_g (g : Nat) : c_board_Volume.g g = gl g := Eq.trans rfl rfl
noncomputable def L_board_Volume (i n : Nat) (s : St) : Option (E × St) := atN Tryz.prog c_board_Volume an_board_Volume 21 (bodyOf Tryz.f67) i n s
noncomputable def H_board_Volume (n i : Nat) (s : St) : Option (E × St) := atH Tryz.prog c_board_Volume an_board_Volume 21 (bodyOf Tryz.f67) n i s
@[simp] theorem H_board_Volume_eq (n i : Nat) (s : St) : H_board_Volume n i s = L_board_Volume i n (headOf (an_board_Volume.loops.lookup i) s) := rfl
noncomputable def R_board_Volume (i : Nat) (s : St) : Option (E × St) := stepL Tryz.prog c_board_Volume an_board_Volume 21 (bodyOf Tryz.f67) i s
theorem lok_board_Volume : okLoops (bodyOf Tryz.f67) = true := by kernel_rfl
noncomputable def F_board_Volume (ds : List D) : Option D := runF Tryz.prog c_board_Volume an_board_Volume 21 (bodyOf Tryz.f67) [.tmp 2] ds
theorem F_board_Volume_eq (ds : List D) : F_board_Volume ds = runG Tryz.prog c_board_Volume (H_board_Volume bigL) an_board_Volume 21 (bodyOf Tryz.f67) [.tmp 2] ds := runG_eq lok_board_Volume _ ds
theorem C_board_Volume (ds : List D) (r : D) (h : F_board_Volume ds = some r) : Contract Tryz.prog gl 67 ds r := contract_of mix Tryz.func67 rfl (by kernel_rfl) (by kernel_rfl) (by decide) (call := c_board_Volume) ⟨callOf_ok cl_board_Volume ⟨C_board_isBox, C_board_length, trivial⟩, callOfE_ok ce_board_Volume trivial⟩ h
-- sawmill/board.isMoist: loops []; state: params 0..0, then [2]
attribute [simp] Tryz.f68
noncomputable def an_board_isMoist : Ann := ⟨[2], [], [], [], [], some [2], [], [], [(39, 0, 51, 2)], []⟩
@[simp] theorem an_board_isMoist_draws : an_board_isMoist.draws = [] := rfl
@[simp] theorem an_board_isMoist_exits : an_board_isMoist.exits = [] := rfl
@[simp] theorem an_board_isMoist_rets : an_board_isMoist.rets = some [2] := rfl
@[simp] theorem an_board_isMoist_keep : an_board_isMoist.keep = [2] := rfl
@[simp] theorem an_board_isMoist_cond : an_board_isMoist.cond = [] := rfl
@[simp] theorem an_board_isMoist_rows : an_board_isMoist.rows = [] := rfl
@[simp] theorem an_board_isMoist_loops : an_board_isMoist.loops = [] := rfl
@[simp] theorem an_board_isMoist_ecalls : an_board_isMoist.ecalls = [] := rfl
@[simp] theorem an_board_isMoist_crows : an_board_isMoist.crows = [(39, 0, 51, 2)] := rfl
@[simp] theorem an_board_isMoist_tails : an_board_isMoist.tails = [] := rfl
@[simp] noncomputable def cl_board_isMoist : List (Nat × (List D → Option D)) := []
@[simp] noncomputable def ce_board_isMoist : List (Nat × (List (Nat × O) → List D → Option (D × List (Nat × O)))) := []
noncomputable def c_board_isMoist : CT := ⟨callOf (cl_board_isMoist ), callOfE ce_board_isMoist, gl⟩
@[simp] theorem c_board_isMoist_p (f : FuncId) (ds : List D) : c_board_isMoist.p f ds = callOf (cl_board_isMoist ) f ds := Eq.trans rfl rfl
@[simp] theorem c_board_isMoist_e (f : FuncId) (hs : List (Nat × O)) (ds : List D) : c_board_isMoist.e f hs ds = callOfE ce_board_isMoist f hs ds := Eq.trans rfl rfl
@[simp] theorem c_board_isMoist_g (g : Nat) : c_board_isMoist.g g = gl g := Eq.trans rfl rfl
noncomputable def L_board_isMoist (i n : Nat) (s : St) : Option (E × St) := atN Tryz.prog c_board_isMoist an_board_isMoist 9 (bodyOf Tryz.f68) i n s
noncomputable def H_board_isMoist (n i : Nat) (s : St) : Option (E × St) := atH Tryz.prog c_board_isMoist an_board_isMoist 9 (bodyOf Tryz.f68) n i s
@[simp] theorem H_board_isMoist_eq (n i : Nat) (s : St) : H_board_isMoist n i s = L_board_isMoist i n (headOf (an_board_isMoist.loops.lookup i) s) := rfl
noncomputable def R_board_isMoist (i : Nat) (s : St) : Option (E × St) := stepL Tryz.prog c_board_isMoist an_board_isMoist 9 (bodyOf Tryz.f68) i s
theorem lok_board_isMoist : okLoops (bodyOf Tryz.f68) = true := by kernel_rfl
noncomputable def F_board_isMoist (ds : List D) : Option D := runF Tryz.prog c_board_isMoist an_board_isMoist 9 (bodyOf Tryz.f68) [.tmp 2] ds
theorem F_board_isMoist_eq (ds : List D) : F_board_isMoist ds = runG Tryz.prog c_board_isMoist (H_board_isMoist bigL) an_board_isMoist 9 (bodyOf Tryz.f68) [.tmp 2] ds := runG_eq lok_board_isMoist _ ds
theorem C_board_isMoist (ds : List D) (r : D) (h : F_board_isMoist ds = some r) : Contract Tryz.prog gl 68 ds r := contract_of mix Tryz.func68 rfl (by kernel_rfl) (by kernel_rfl) (by decide) (call := c_board_isMoist) ⟨callOf_ok cl_board_isMoist trivial, callOfE_ok ce_board_isMoist trivial⟩ h
-- sawmill/board.Check: loops [22]; state: params 0..1, then [2, 4, 5, 6, 7, 8, 9, 10, 11, 12, 13, 15, 100, 101, 102]
attribute [simp] Tryz.f30
noncomputable def an_board_Check : Ann := ⟨[1, 2, 4, 5, 6, 7, 8, 9, 10, 11, 12, 13, 15, 100, 101, 102], [19, 36, 46, 50, 87, 92, 97, 103, 127, 148, 172, 180], [], [(22, [2, 7, 8, 9, 100, 101, 102])], [(0, [2]), (1, [2, 7, 8, 9, 100, 101, 102])], some [4], [(11, 11), (27, 8)], [], [(39, 0, 51, 2)], []⟩
@[simp] theorem an_board_Check_draws : an_board_Check.draws = [(11, 11), (27, 8)] := rfl
@[simp] theorem an_board_Check_exits : an_board_Check.exits = [(0, [2]), (1, [2, 7, 8, 9, 100, 101, 102])] := rfl
@[simp] theorem an_board_Check_rets : an_board_Check.rets = some [4] := rfl
@[simp] theorem an_board_Check_keep : an_board_Check.keep = [1, 2, 4, 5, 6, 7, 8, 9, 10, 11, 12, 13, 15, 100, 101, 102] := rfl
@[simp] theorem an_board_Check_cond : an_board_Check.cond = [19, 36, 46, 50, 87, 92, 97, 103, 127, 148, 172, 180] := rfl
@[simp] theorem an_board_Check_rows : an_board_Check.rows = [] := rfl
@[simp] theorem an_board_Check_loops : an_board_Check.loops = [(22, [2, 7, 8, 9, 100, 101, 102])] := rfl
@[simp] theorem an_board_Check_ecalls : an_board_Check.ecalls = [] := rfl
@[simp] theorem an_board_Check_crows : an_board_Check.crows = [(39, 0, 51, 2)] := rfl
@[simp] theorem an_board_Check_tails : an_board_Check.tails = [] := rfl
@[simp] noncomputable def cl_board_Check : List (Nat × (List D → Option D)) := [(58, F_product_Check), (59, F_ident_Is), (60, F_ident_IsName), (61, F_board_isBox), (62, F_board_length), (63, F_product_Green), (64, F_slices_Contains_int_int), (65, F_defect_Check), (66, F_board_inside), (67, F_board_Volume), (68, F_board_isMoist)]
@[simp] noncomputable def ce_board_Check : List (Nat × (List (Nat × O) → List D → Option (D × List (Nat × O)))) := []
noncomputable def c_board_Check : CT := ⟨callOf (cl_board_Check ), callOfE ce_board_Check, gl⟩
@[simp] theorem c_board_Check_p (f : FuncId) (ds : List D) : c_board_Check.p f ds = callOf (cl_board_Check ) f ds := Eq.trans rfl rfl
@[simp] theorem c_board_Check_e (f : FuncId) (hs : List (Nat × O)) (ds : List D) : c_board_Check.e f hs ds = callOfE ce_board_Check f hs ds := Eq.trans rfl rfl
@[simp] theorem c_board_Check_g (g : Nat) : c_board_Check.g g = gl g := Eq.trans rfl rfl
noncomputable def L_board_Check (i n : Nat) (s : St) : Option (E × St) := atN Tryz.prog c_board_Check an_board_Check 181 (bodyOf Tryz.f30) i n s
noncomputable def H_board_Check (n i : Nat) (s : St) : Option (E × St) := atH Tryz.prog c_board_Check an_board_Check 181 (bodyOf Tryz.f30) n i s
@[simp] theorem H_board_Check_eq (n i : Nat) (s : St) : H_board_Check n i s = L_board_Check i n (headOf (an_board_Check.loops.lookup i) s) := rfl
noncomputable def R_board_Check (i : Nat) (s : St) : Option (E × St) := stepL Tryz.prog c_board_Check an_board_Check 181 (bodyOf Tryz.f30) i s
theorem lok_board_Check : okLoops (bodyOf Tryz.f30) = true := by kernel_rfl
theorem L_board_Check_zero (i : Nat) (s : St) : L_board_Check i 0 s = none := rfl
theorem L_board_Check_succ (i n : Nat) (s : St) : L_board_Check i (n + 1) s = andThen (R_board_Check i s) (H_board_Check n i) := atN_succ lok_board_Check i n s
theorem R_board_Check_eq (i : Nat) (s : St) : R_board_Check i s = runS Tryz.prog c_board_Check (H_board_Check bigL) an_board_Check 181 (loopAt (bodyOf Tryz.f30) i) s := rfl
noncomputable def F_board_Check (ds : List D) : Option D := runF Tryz.prog c_board_Check an_board_Check 181 (bodyOf Tryz.f30) [.tmp 4] ds
theorem F_board_Check_eq (ds : List D) : F_board_Check ds = runG Tryz.prog c_board_Check (H_board_Check bigL) an_board_Check 181 (bodyOf Tryz.f30) [.tmp 4] ds := runG_eq lok_board_Check _ ds
theorem C_board_Check (ds : List D) (r : D) (h : F_board_Check ds = some r) : Contract Tryz.prog gl 30 ds r := contract_of mix Tryz.func30 rfl (by kernel_rfl) (by kernel_rfl) (by decide) (call := c_board_Check) ⟨callOf_ok cl_board_Check ⟨C_product_Check, C_ident_Is, C_ident_IsName, C_board_isBox, C_board_length, C_product_Green, C_slices_Contains_int_int, C_defect_Check, C_board_inside, C_board_Volume, C_board_isMoist, trivial⟩, callOfE_ok ce_board_Check trivial⟩ h
-- sawmill/wood.Find: loops [2]; state: params 0..1, then [4, 5, 7, 8, 9, 10]
attribute [simp] Tryz.f69
noncomputable def an_wood_Find : Ann := ⟨[4, 5, 7, 8, 9, 10], [11, 17], [], [(2, [1, 4, 8, 9, 10])], [(0, [4]), (1, [1, 4, 8, 9, 10])], some [4, 5], [], [], [(39, 0, 51, 2)], []⟩
@[simp] theorem an_wood_Find_draws : an_wood_Find.draws = [] := rfl
@[simp] theorem an_wood_Find_exits : an_wood_Find.exits = [(0, [4]), (1, [1, 4, 8, 9, 10])] := rfl
@[simp] theorem an_wood_Find_rets : an_wood_Find.rets = some [4, 5] := rfl
@[simp] theorem an_wood_Find_keep : an_wood_Find.keep = [4, 5, 7, 8, 9, 10] := rfl
@[simp] theorem an_wood_Find_cond : an_wood_Find.cond = [11, 17] := rfl
@[simp] theorem an_wood_Find_rows : an_wood_Find.rows = [] := rfl
@[simp] theorem an_wood_Find_loops : an_wood_Find.loops = [(2, [1, 4, 8, 9, 10])] := rfl
@[simp] theorem an_wood_Find_ecalls : an_wood_Find.ecalls = [] := rfl
@[simp] theorem an_wood_Find_crows : an_wood_Find.crows = [(39, 0, 51, 2)] := rfl
@[simp] theorem an_wood_Find_tails : an_wood_Find.tails = [] := rfl
@[simp] noncomputable def cl_wood_Find : List (Nat × (List D → Option D)) := []
@[simp] noncomputable def ce_wood_Find : List (Nat × (List (Nat × O) → List D → Option (D × List (Nat × O)))) := []
noncomputable def c_wood_Find : CT := ⟨callOf (cl_wood_Find ), callOfE ce_wood_Find, gl⟩
@[simp] theorem c_wood_Find_p (f : FuncId) (ds : List D) : c_wood_Find.p f ds = callOf (cl_wood_Find ) f ds := Eq.trans rfl rfl
@[simp] theorem c_wood_Find_e (f : FuncId) (hs : List (Nat × O)) (ds : List D) : c_wood_Find.e f hs ds = callOfE ce_wood_Find f hs ds := Eq.trans rfl rfl
@[simp] theorem c_wood_Find_g (g : Nat) : c_wood_Find.g g = gl g := Eq.trans rfl rfl
noncomputable def L_wood_Find (i n : Nat) (s : St) : Option (E × St) := atN Tryz.prog c_wood_Find an_wood_Find 21 (bodyOf Tryz.f69) i n s
noncomputable def H_wood_Find (n i : Nat) (s : St) : Option (E × St) := atH Tryz.prog c_wood_Find an_wood_Find 21 (bodyOf Tryz.f69) n i s
@[simp] theorem H_wood_Find_eq (n i : Nat) (s : St) : H_wood_Find n i s = L_wood_Find i n (headOf (an_wood_Find.loops.lookup i) s) := rfl
noncomputable def R_wood_Find (i : Nat) (s : St) : Option (E × St) := stepL Tryz.prog c_wood_Find an_wood_Find 21 (bodyOf Tryz.f69) i s
theorem lok_wood_Find : okLoops (bodyOf Tryz.f69) = true := by kernel_rfl
theorem L_wood_Find_zero (i : Nat) (s : St) : L_wood_Find i 0 s = none := rfl
theorem L_wood_Find_succ (i n : Nat) (s : St) : L_wood_Find i (n + 1) s = andThen (R_wood_Find i s) (H_wood_Find n i) := atN_succ lok_wood_Find i n s
theorem R_wood_Find_eq (i : Nat) (s : St) : R_wood_Find i s = runS Tryz.prog c_wood_Find (H_wood_Find bigL) an_wood_Find 21 (loopAt (bodyOf Tryz.f69) i) s := rfl
noncomputable def F_wood_Find (ds : List D) : Option D := runF Tryz.prog c_wood_Find an_wood_Find 21 (bodyOf Tryz.f69) [.cell 4 33, .tmp 5] ds
theorem F_wood_Find_eq (ds : List D) : F_wood_Find ds = runG Tryz.prog c_wood_Find (H_wood_Find bigL) an_wood_Find 21 (bodyOf Tryz.f69) [.cell 4 33, .tmp 5] ds := runG_eq lok_wood_Find _ ds
theorem C_wood_Find (ds : List D) (r : D) (h : F_wood_Find ds = some r) : Contract Tryz.prog gl 69 ds r := contract_of mix Tryz.func69 rfl (by kernel_rfl) (by kernel_rfl) (by decide) (call := c_wood_Find) ⟨callOf_ok cl_wood_Find trivial, callOfE_ok ce_wood_Find trivial⟩ h
-- sawmill/wood.numbers: loops []; state: params 0..0, then [1, 2]
attribute [simp] Tryz.f101
noncomputable def an_wood_numbers : Ann := ⟨[1, 2], [], [], [], [], some [2], [], [], [(39, 0, 51, 2)], []⟩
@[simp] theorem an_wood_numbers_draws : an_wood_numbers.draws = [] := rfl
@[simp] theorem an_wood_numbers_exits : an_wood_numbers.exits = [] := rfl
@[simp] theorem an_wood_numbers_rets : an_wood_numbers.rets = some [2] := rfl
@[simp] theorem an_wood_numbers_keep : an_wood_numbers.keep = [1, 2] := rfl
@[simp] theorem an_wood_numbers_cond : an_wood_numbers.cond = [] := rfl
@[simp] theorem an_wood_numbers_rows : an_wood_numbers.rows = [] := rfl
@[simp] theorem an_wood_numbers_loops : an_wood_numbers.loops = [] := rfl
@[simp] theorem an_wood_numbers_ecalls : an_wood_numbers.ecalls = [] := rfl
@[simp] theorem an_wood_numbers_crows : an_wood_numbers.crows = [(39, 0, 51, 2)] := rfl
@[simp] theorem an_wood_numbers_tails : an_wood_numbers.tails = [] := rfl
@[simp] noncomputable def cl_wood_numbers : List (Nat × (List D → Option D)) := []
@[simp] noncomputable def ce_wood_numbers : List (Nat × (List (Nat × O) → List D → Option (D × List (Nat × O)))) := []
noncomputable def c_wood_numbers : CT := ⟨callOf (cl_wood_numbers ), callOfE ce_wood_numbers, gl⟩
@[simp] theorem c_wood_numbers_p (f : FuncId) (ds : List D) : c_wood_numbers.p f ds = callOf (cl_wood_numbers ) f ds := Eq.trans rfl rfl
@[simp] theorem c_wood_numbers_e (f : FuncId) (hs : List (Nat × O)) (ds : List D) : c_wood_numbers.e f hs ds = callOfE ce_wood_numbers f hs ds := Eq.trans rfl rfl
@[simp] theorem c_wood_numbers_g (g : Nat) : c_wood_numbers.g g = gl g := Eq.trans rfl rfl
noncomputable def L_wood_numbers (i n : Nat) (s : St) : Option (E × St) := atN Tryz.prog c_wood_numbers an_wood_numbers 28 (bodyOf Tryz.f101) i n s
noncomputable def H_wood_numbers (n i : Nat) (s : St) : Option (E × St) := atH Tryz.prog c_wood_numbers an_wood_numbers 28 (bodyOf Tryz.f101) n i s
@[simp] theorem H_wood_numbers_eq (n i : Nat) (s : St) : H_wood_numbers n i s = L_wood_numbers i n (headOf (an_wood_numbers.loops.lookup i) s) := rfl
noncomputable def R_wood_numbers (i : Nat) (s : St) : Option (E × St) := stepL Tryz.prog c_wood_numbers an_wood_numbers 28 (bodyOf Tryz.f101) i s
theorem lok_wood_numbers : okLoops (bodyOf Tryz.f101) = true := by kernel_rfl
noncomputable def F_wood_numbers (ds : List D) : Option D := runF Tryz.prog c_wood_numbers an_wood_numbers 28 (bodyOf Tryz.f101) [.cell 2 108] ds
theorem F_wood_numbers_eq (ds : List D) : F_wood_numbers ds = runG Tryz.prog c_wood_numbers (H_wood_numbers bigL) an_wood_numbers 28 (bodyOf Tryz.f101) [.cell 2 108] ds := runG_eq lok_wood_numbers _ ds
theorem C_wood_numbers (ds : List D) (r : D) (h : F_wood_numbers ds = some r) : Contract Tryz.prog gl 101 ds r := contract_of mix Tryz.func101 rfl (by kernel_rfl) (by kernel_rfl) (by decide) (call := c_wood_numbers) ⟨callOf_ok cl_wood_numbers trivial, callOfE_ok ce_wood_numbers trivial⟩ h
-- sawmill/wood.inRange: loops [3]; state: params 0..0, then [1, 2, 3, 4, 5, 24, 25]
attribute [simp] Tryz.f70
noncomputable def an_wood_inRange : Ann := ⟨[1, 2, 3, 4, 5, 24, 25], [26, 42], [], [(3, [3, 24, 25])], [(0, []), (1, [3, 24, 25])], some [2], [], [], [(39, 0, 51, 2)], []⟩
@[simp] theorem an_wood_inRange_draws : an_wood_inRange.draws = [] := rfl
@[simp] theorem an_wood_inRange_exits : an_wood_inRange.exits = [(0, []), (1, [3, 24, 25])] := rfl
@[simp] theorem an_wood_inRange_rets : an_wood_inRange.rets = some [2] := rfl
@[simp] theorem an_wood_inRange_keep : an_wood_inRange.keep = [1, 2, 3, 4, 5, 24, 25] := rfl
@[simp] theorem an_wood_inRange_cond : an_wood_inRange.cond = [26, 42] := rfl
@[simp] theorem an_wood_inRange_rows : an_wood_inRange.rows = [] := rfl
@[simp] theorem an_wood_inRange_loops : an_wood_inRange.loops = [(3, [3, 24, 25])] := rfl
@[simp] theorem an_wood_inRange_ecalls : an_wood_inRange.ecalls = [] := rfl
@[simp] theorem an_wood_inRange_crows : an_wood_inRange.crows = [(39, 0, 51, 2)] := rfl
@[simp] theorem an_wood_inRange_tails : an_wood_inRange.tails = [] := rfl
@[simp] noncomputable def cl_wood_inRange : List (Nat × (List D → Option D)) := [(101, F_wood_numbers)]
@[simp] noncomputable def ce_wood_inRange : List (Nat × (List (Nat × O) → List D → Option (D × List (Nat × O)))) := []
noncomputable def c_wood_inRange : CT := ⟨callOf (cl_wood_inRange ), callOfE ce_wood_inRange, gl⟩
@[simp] theorem c_wood_inRange_p (f : FuncId) (ds : List D) : c_wood_inRange.p f ds = callOf (cl_wood_inRange ) f ds := Eq.trans rfl rfl
@[simp] theorem c_wood_inRange_e (f : FuncId) (hs : List (Nat × O)) (ds : List D) : c_wood_inRange.e f hs ds = callOfE ce_wood_inRange f hs ds := Eq.trans rfl rfl
@[simp] theorem c_wood_inRange_g (g : Nat) : c_wood_inRange.g g = gl g := Eq.trans rfl rfl
noncomputable def L_wood_inRange (i n : Nat) (s : St) : Option (E × St) := atN Tryz.prog c_wood_inRange an_wood_inRange 44 (bodyOf Tryz.f70) i n s
noncomputable def H_wood_inRange (n i : Nat) (s : St) : Option (E × St) := atH Tryz.prog c_wood_inRange an_wood_inRange 44 (bodyOf Tryz.f70) n i s
@[simp] theorem H_wood_inRange_eq (n i : Nat) (s : St) : H_wood_inRange n i s = L_wood_inRange i n (headOf (an_wood_inRange.loops.lookup i) s) := rfl
noncomputable def R_wood_inRange (i : Nat) (s : St) : Option (E × St) := stepL Tryz.prog c_wood_inRange an_wood_inRange 44 (bodyOf Tryz.f70) i s
theorem lok_wood_inRange : okLoops (bodyOf Tryz.f70) = true := by kernel_rfl
theorem L_wood_inRange_zero (i : Nat) (s : St) : L_wood_inRange i 0 s = none := rfl
theorem L_wood_inRange_succ (i n : Nat) (s : St) : L_wood_inRange i (n + 1) s = andThen (R_wood_inRange i s) (H_wood_inRange n i) := atN_succ lok_wood_inRange i n s
theorem R_wood_inRange_eq (i : Nat) (s : St) : R_wood_inRange i s = runS Tryz.prog c_wood_inRange (H_wood_inRange bigL) an_wood_inRange 44 (loopAt (bodyOf Tryz.f70) i) s := rfl
noncomputable def F_wood_inRange (ds : List D) : Option D := runF Tryz.prog c_wood_inRange an_wood_inRange 44 (bodyOf Tryz.f70) [.tmp 2] ds
theorem F_wood_inRange_eq (ds : List D) : F_wood_inRange ds = runG Tryz.prog c_wood_inRange (H_wood_inRange bigL) an_wood_inRange 44 (bodyOf Tryz.f70) [.tmp 2] ds := runG_eq lok_wood_inRange _ ds
theorem C_wood_inRange (ds : List D) (r : D) (h : F_wood_inRange ds = some r) : Contract Tryz.prog gl 70 ds r := contract_of mix Tryz.func70 rfl (by kernel_rfl) (by kernel_rfl) (by decide) (call := c_wood_inRange) ⟨callOf_ok cl_wood_inRange ⟨C_wood_numbers, trivial⟩, callOfE_ok ce_wood_inRange trivial⟩ h
-- sawmill/wood.Check: loops [4]; state: params 0..0, then [2, 3, 4, 6, 10, 11, 12]
attribute [simp] Tryz.f31
noncomputable def an_wood_Check : Ann := ⟨[0, 2, 3, 4, 6, 10, 11, 12], [9, 13, 20, 30, 33], [], [(4, [0, 10, 11, 12])], [(0, []), (1, [0, 10, 11, 12])], some [2], [(8, 11)], [], [(39, 0, 51, 2)], []⟩
@[simp] theorem an_wood_Check_draws : an_wood_Check.draws = [(8, 11)] := rfl
@[simp] theorem an_wood_Check_exits : an_wood_Check.exits = [(0, []), (1, [0, 10, 11, 12])] := rfl
@[simp] theorem an_wood_Check_rets : an_wood_Check.rets = some [2] := rfl
@[simp] theorem an_wood_Check_keep : an_wood_Check.keep = [0, 2, 3, 4, 6, 10, 11, 12] := rfl
@[simp] theorem an_wood_Check_cond : an_wood_Check.cond = [9, 13, 20, 30, 33] := rfl
@[simp] theorem an_wood_Check_rows : an_wood_Check.rows = [] := rfl
@[simp] theorem an_wood_Check_loops : an_wood_Check.loops = [(4, [0, 10, 11, 12])] := rfl
@[simp] theorem an_wood_Check_ecalls : an_wood_Check.ecalls = [] := rfl
@[simp] theorem an_wood_Check_crows : an_wood_Check.crows = [(39, 0, 51, 2)] := rfl
@[simp] theorem an_wood_Check_tails : an_wood_Check.tails = [] := rfl
@[simp] noncomputable def cl_wood_Check : List (Nat × (List D → Option D)) := [(60, F_ident_IsName), (69, F_wood_Find), (70, F_wood_inRange)]
@[simp] noncomputable def ce_wood_Check : List (Nat × (List (Nat × O) → List D → Option (D × List (Nat × O)))) := []
noncomputable def c_wood_Check : CT := ⟨callOf (cl_wood_Check ), callOfE ce_wood_Check, gl⟩
@[simp] theorem c_wood_Check_p (f : FuncId) (ds : List D) : c_wood_Check.p f ds = callOf (cl_wood_Check ) f ds := Eq.trans rfl rfl
@[simp] theorem c_wood_Check_e (f : FuncId) (hs : List (Nat × O)) (ds : List D) : c_wood_Check.e f hs ds = callOfE ce_wood_Check f hs ds := Eq.trans rfl rfl
@[simp] theorem c_wood_Check_g (g : Nat) : c_wood_Check.g g = gl g := Eq.trans rfl rfl
noncomputable def L_wood_Check (i n : Nat) (s : St) : Option (E × St) := atN Tryz.prog c_wood_Check an_wood_Check 35 (bodyOf Tryz.f31) i n s
noncomputable def H_wood_Check (n i : Nat) (s : St) : Option (E × St) := atH Tryz.prog c_wood_Check an_wood_Check 35 (bodyOf Tryz.f31) n i s
@[simp] theorem H_wood_Check_eq (n i : Nat) (s : St) : H_wood_Check n i s = L_wood_Check i n (headOf (an_wood_Check.loops.lookup i) s) := rfl
noncomputable def R_wood_Check (i : Nat) (s : St) : Option (E × St) := stepL Tryz.prog c_wood_Check an_wood_Check 35 (bodyOf Tryz.f31) i s
theorem lok_wood_Check : okLoops (bodyOf Tryz.f31) = true := by kernel_rfl
theorem L_wood_Check_zero (i : Nat) (s : St) : L_wood_Check i 0 s = none := rfl
theorem L_wood_Check_succ (i n : Nat) (s : St) : L_wood_Check i (n + 1) s = andThen (R_wood_Check i s) (H_wood_Check n i) := atN_succ lok_wood_Check i n s
theorem R_wood_Check_eq (i : Nat) (s : St) : R_wood_Check i s = runS Tryz.prog c_wood_Check (H_wood_Check bigL) an_wood_Check 35 (loopAt (bodyOf Tryz.f31) i) s := rfl
noncomputable def F_wood_Check (ds : List D) : Option D := runF Tryz.prog c_wood_Check an_wood_Check 35 (bodyOf Tryz.f31) [.tmp 2] ds
theorem F_wood_Check_eq (ds : List D) : F_wood_Check ds = runG Tryz.prog c_wood_Check (H_wood_Check bigL) an_wood_Check 35 (bodyOf Tryz.f31) [.tmp 2] ds := runG_eq lok_wood_Check _ ds
theorem C_wood_Check (ds : List D) (r : D) (h : F_wood_Check ds = some r) : Contract Tryz.prog gl 31 ds r := contract_of mix Tryz.func31 rfl (by kernel_rfl) (by kernel_rfl) (by decide) (call := c_wood_Check) ⟨callOf_ok cl_wood_Check ⟨C_ident_IsName, C_wood_Find, C_wood_inRange, trivial⟩, callOfE_ok ce_wood_Check trivial⟩ h
-- sawmill/feature.Names: loops []; state: params 0..-1, then [0]
attribute [simp] Tryz.f14
noncomputable def an_feature_Names : Ann := ⟨[0], [], [], [], [], some [0], [], [], [(39, 0, 51, 2)], []⟩
@[simp] theorem an_feature_Names_draws : an_feature_Names.draws = [] := rfl
@[simp] theorem an_feature_Names_exits : an_feature_Names.exits = [] := rfl
@[simp] theorem an_feature_Names_rets : an_feature_Names.rets = some [0] := rfl
@[simp] theorem an_feature_Names_keep : an_feature_Names.keep = [0] := rfl
@[simp] theorem an_feature_Names_cond : an_feature_Names.cond = [] := rfl
@[simp] theorem an_feature_Names_rows : an_feature_Names.rows = [] := rfl
@[simp] theorem an_feature_Names_loops : an_feature_Names.loops = [] := rfl
@[simp] theorem an_feature_Names_ecalls : an_feature_Names.ecalls = [] := rfl
@[simp] theorem an_feature_Names_crows : an_feature_Names.crows = [(39, 0, 51, 2)] := rfl
@[simp] theorem an_feature_Names_tails : an_feature_Names.tails = [] := rfl
@[simp] noncomputable def cl_feature_Names : List (Nat × (List D → Option D)) := []
@[simp] noncomputable def ce_feature_Names : List (Nat × (List (Nat × O) → List D → Option (D × List (Nat × O)))) := []
noncomputable def c_feature_Names : CT := ⟨callOf (cl_feature_Names ), callOfE ce_feature_Names, gl⟩
@[simp] theorem c_feature_Names_p (f : FuncId) (ds : List D) : c_feature_Names.p f ds = callOf (cl_feature_Names ) f ds := Eq.trans rfl rfl
@[simp] theorem c_feature_Names_e (f : FuncId) (hs : List (Nat × O)) (ds : List D) : c_feature_Names.e f hs ds = callOfE ce_feature_Names f hs ds := Eq.trans rfl rfl
@[simp] theorem c_feature_Names_g (g : Nat) : c_feature_Names.g g = gl g := Eq.trans rfl rfl
noncomputable def L_feature_Names (i n : Nat) (s : St) : Option (E × St) := atN Tryz.prog c_feature_Names an_feature_Names 2 (bodyOf Tryz.f14) i n s
noncomputable def H_feature_Names (n i : Nat) (s : St) : Option (E × St) := atH Tryz.prog c_feature_Names an_feature_Names 2 (bodyOf Tryz.f14) n i s
@[simp] theorem H_feature_Names_eq (n i : Nat) (s : St) : H_feature_Names n i s = L_feature_Names i n (headOf (an_feature_Names.loops.lookup i) s) := rfl
noncomputable def R_feature_Names (i : Nat) (s : St) : Option (E × St) := stepL Tryz.prog c_feature_Names an_feature_Names 2 (bodyOf Tryz.f14) i s
theorem lok_feature_Names : okLoops (bodyOf Tryz.f14) = true := by kernel_rfl
noncomputable def F_feature_Names (ds : List D) : Option D := runF Tryz.prog c_feature_Names an_feature_Names 2 (bodyOf Tryz.f14) [.tmp 0] ds
theorem F_feature_Names_eq (ds : List D) : F_feature_Names ds = runG Tryz.prog c_feature_Names (H_feature_Names bigL) an_feature_Names 2 (bodyOf Tryz.f14) [.tmp 0] ds := runG_eq lok_feature_Names _ ds
theorem C_feature_Names (ds : List D) (r : D) (h : F_feature_Names ds = some r) : Contract Tryz.prog gl 14 ds r := contract_of mix Tryz.func14 rfl (by kernel_rfl) (by kernel_rfl) (by decide) (call := c_feature_Names) ⟨callOf_ok cl_feature_Names trivial, callOfE_ok ce_feature_Names trivial⟩ h
-- sawmill/feature.Of$1: loops []; state: params 0..2, then []; WITH OBJECTS
attribute [simp] Tryz.f32
noncomputable def an_feature_Of_1 : Ann := ⟨[], [], [4], [], [], some [], [(0, 9)], [], [(39, 0, 51, 2)], []⟩
@[simp] theorem an_feature_Of_1_draws : an_feature_Of_1.draws = [(0, 9)] := rfl
@[simp] theorem an_feature_Of_1_exits : an_feature_Of_1.exits = [] := rfl
@[simp] theorem an_feature_Of_1_rets : an_feature_Of_1.rets = some [] := rfl
@[simp] theorem an_feature_Of_1_keep : an_feature_Of_1.keep = [] := rfl
@[simp] theorem an_feature_Of_1_cond : an_feature_Of_1.cond = [] := rfl
@[simp] theorem an_feature_Of_1_rows : an_feature_Of_1.rows = [4] := rfl
@[simp] theorem an_feature_Of_1_loops : an_feature_Of_1.loops = [] := rfl
@[simp] theorem an_feature_Of_1_ecalls : an_feature_Of_1.ecalls = [] := rfl
@[simp] theorem an_feature_Of_1_crows : an_feature_Of_1.crows = [(39, 0, 51, 2)] := rfl
@[simp] theorem an_feature_Of_1_tails : an_feature_Of_1.tails = [] := rfl
@[simp] noncomputable def cl_feature_Of_1 : List (Nat × (List D → Option D)) := []
@[simp] noncomputable def ce_feature_Of_1 : List (Nat × (List (Nat × O) → List D → Option (D × List (Nat × O)))) := []
noncomputable def c_feature_Of_1 : CT := ⟨callOf (cl_feature_Of_1 ), callOfE ce_feature_Of_1, gl⟩
@[simp] theorem c_feature_Of_1_p (f : FuncId) (ds : List D) : c_feature_Of_1.p f ds = callOf (cl_feature_Of_1 ) f ds := Eq.trans rfl rfl
@[simp] theorem c_feature_Of_1_e (f : FuncId) (hs : List (Nat × O)) (ds : List D) : c_feature_Of_1.e f hs ds = callOfE ce_feature_Of_1 f hs ds := Eq.trans rfl rfl
@[simp] theorem c_feature_Of_1_g (g : Nat) : c_feature_Of_1.g g = gl g := Eq.trans rfl rfl
noncomputable def L_feature_Of_1 (i n : Nat) (s : St) : Option (E × St) := atN Tryz.prog c_feature_Of_1 an_feature_Of_1 14 (bodyOf Tryz.f32) i n s
noncomputable def H_feature_Of_1 (n i : Nat) (s : St) : Option (E × St) := atH Tryz.prog c_feature_Of_1 an_feature_Of_1 14 (bodyOf Tryz.f32) n i s
@[simp] theorem H_feature_Of_1_eq (n i : Nat) (s : St) : H_feature_Of_1 n i s = L_feature_Of_1 i n (headOf (an_feature_Of_1.loops.lookup i) s) := rfl
noncomputable def R_feature_Of_1 (i : Nat) (s : St) : Option (E × St) := stepL Tryz.prog c_feature_Of_1 an_feature_Of_1 14 (bodyOf Tryz.f32) i s
theorem lok_feature_Of_1 : okLoops (bodyOf Tryz.f32) = true := by kernel_rfl
noncomputable def E_feature_Of_1 (hs : List (Nat × O)) (ds : List D) : Option (D × List (Nat × O)) := runE Tryz.prog c_feature_Of_1 an_feature_Of_1 14 (bodyOf Tryz.f32) [] hs ds
theorem E_feature_Of_1_eq (hs : List (Nat × O)) (ds : List D) : E_feature_Of_1 hs ds = runGE Tryz.prog c_feature_Of_1 (H_feature_Of_1 bigL) an_feature_Of_1 14 (bodyOf Tryz.f32) [] hs ds := runGE_eq lok_feature_Of_1 _ hs ds
theorem CE_feature_Of_1 (hs : List (Nat × O)) (ds : List D) (r : D) (hs' : List (Nat × O)) (h : E_feature_Of_1 hs ds = some (r, hs')) : ContractE Tryz.prog gl 32 hs ds r hs' := contractE_of mix Tryz.func32 rfl (by kernel_rfl) (by kernel_rfl) (by decide) (call := c_feature_Of_1) ⟨callOf_ok cl_feature_Of_1 trivial, callOfE_ok ce_feature_Of_1 trivial⟩ h
-- sawmill/board.Length: loops []; state: params 0..0, then [1, 2]
attribute [simp] Tryz.f33
noncomputable def an_board_Length : Ann := ⟨[1, 2], [7], [], [], [], some [2], [], [], [(39, 0, 51, 2)], []⟩
@[simp] theorem an_board_Length_draws : an_board_Length.draws = [] := rfl
@[simp] theorem an_board_Length_exits : an_board_Length.exits = [] := rfl
@[simp] theorem an_board_Length_rets : an_board_Length.rets = some [2] := rfl
@[simp] theorem an_board_Length_keep : an_board_Length.keep = [1, 2] := rfl
@[simp] theorem an_board_Length_cond : an_board_Length.cond = [7] := rfl
@[simp] theorem an_board_Length_rows : an_board_Length.rows = [] := rfl
@[simp] theorem an_board_Length_loops : an_board_Length.loops = [] := rfl
@[simp] theorem an_board_Length_ecalls : an_board_Length.ecalls = [] := rfl
@[simp] theorem an_board_Length_crows : an_board_Length.crows = [(39, 0, 51, 2)] := rfl
@[simp] theorem an_board_Length_tails : an_board_Length.tails = [] := rfl
@[simp] noncomputable def cl_board_Length : List (Nat × (List D → Option D)) := [(62, F_board_length), (71, F_board_isAlong)]
@[simp] noncomputable def ce_board_Length : List (Nat × (List (Nat × O) → List D → Option (D × List (Nat × O)))) := []
noncomputable def c_board_Length : CT := ⟨callOf (cl_board_Length ), callOfE ce_board_Length, gl⟩
@[simp] theorem c_board_Length_p (f : FuncId) (ds : List D) : c_board_Length.p f ds = callOf (cl_board_Length ) f ds := Eq.trans rfl rfl
@[simp] theorem c_board_Length_e (f : FuncId) (hs : List (Nat × O)) (ds : List D) : c_board_Length.e f hs ds = callOfE ce_board_Length f hs ds := Eq.trans rfl rfl
@[simp] theorem c_board_Length_g (g : Nat) : c_board_Length.g g = gl g := Eq.trans rfl rfl
noncomputable def L_board_Length (i n : Nat) (s : St) : Option (E × St) := atN Tryz.prog c_board_Length an_board_Length 12 (bodyOf Tryz.f33) i n s
noncomputable def H_board_Length (n i : Nat) (s : St) : Option (E × St) := atH Tryz.prog c_board_Length an_board_Length 12 (bodyOf Tryz.f33) n i s
@[simp] theorem H_board_Length_eq (n i : Nat) (s : St) : H_board_Length n i s = L_board_Length i n (headOf (an_board_Length.loops.lookup i) s) := rfl
noncomputable def R_board_Length (i : Nat) (s : St) : Option (E × St) := stepL Tryz.prog c_board_Length an_board_Length 12 (bodyOf Tryz.f33) i s
theorem lok_board_Length : okLoops (bodyOf Tryz.f33) = true := by kernel_rfl
noncomputable def F_board_Length (ds : List D) : Option D := runF Tryz.prog c_board_Length an_board_Length 12 (bodyOf Tryz.f33) [.tmp 2] ds
theorem F_board_Length_eq (ds : List D) : F_board_Length ds = runG Tryz.prog c_board_Length (H_board_Length bigL) an_board_Length 12 (bodyOf Tryz.f33) [.tmp 2] ds := runG_eq lok_board_Length _ ds
theorem C_board_Length (ds : List D) (r : D) (h : F_board_Length ds = some r) : Contract Tryz.prog gl 33 ds r := contract_of mix Tryz.func33 rfl (by kernel_rfl) (by kernel_rfl) (by decide) (call := c_board_Length) ⟨callOf_ok cl_board_Length ⟨C_board_length, C_board_isAlong, trivial⟩, callOfE_ok ce_board_Length trivial⟩ h
-- sawmill/defect.Count: loops [3]; state: params 0..1, then [4, 5, 7, 8, 9, 10]
attribute [simp] Tryz.f34
noncomputable def an_defect_Count : Ann := ⟨[4, 5, 7, 8, 9, 10], [11, 17], [], [(3, [1, 5, 8, 9, 10])], [(0, [5]), (1, [1, 5, 8, 9, 10])], some [4], [], [], [(39, 0, 51, 2)], []⟩
@[simp] theorem an_defect_Count_draws : an_defect_Count.draws = [] := rfl
@[simp] theorem an_defect_Count_exits : an_defect_Count.exits = [(0, [5]), (1, [1, 5, 8, 9, 10])] := rfl
@[simp] theorem an_defect_Count_rets : an_defect_Count.rets = some [4] := rfl
@[simp] theorem an_defect_Count_keep : an_defect_Count.keep = [4, 5, 7, 8, 9, 10] := rfl
@[simp] theorem an_defect_Count_cond : an_defect_Count.cond = [11, 17] := rfl
@[simp] theorem an_defect_Count_rows : an_defect_Count.rows = [] := rfl
@[simp] theorem an_defect_Count_loops : an_defect_Count.loops = [(3, [1, 5, 8, 9, 10])] := rfl
@[simp] theorem an_defect_Count_ecalls : an_defect_Count.ecalls = [] := rfl
@[simp] theorem an_defect_Count_crows : an_defect_Count.crows = [(39, 0, 51, 2)] := rfl
@[simp] theorem an_defect_Count_tails : an_defect_Count.tails = [] := rfl
@[simp] noncomputable def cl_defect_Count : List (Nat × (List D → Option D)) := []
@[simp] noncomputable def ce_defect_Count : List (Nat × (List (Nat × O) → List D → Option (D × List (Nat × O)))) := []
noncomputable def c_defect_Count : CT := ⟨callOf (cl_defect_Count ), callOfE ce_defect_Count, gl⟩
@[simp] theorem c_defect_Count_p (f : FuncId) (ds : List D) : c_defect_Count.p f ds = callOf (cl_defect_Count ) f ds := Eq.trans rfl rfl
@[simp] theorem c_defect_Count_e (f : FuncId) (hs : List (Nat × O)) (ds : List D) : c_defect_Count.e f hs ds = callOfE ce_defect_Count f hs ds := Eq.trans rfl rfl
@[simp] theorem c_defect_Count_g (g : Nat) : c_defect_Count.g g = gl g := Eq.trans rfl rfl
noncomputable def L_defect_Count (i n : Nat) (s : St) : Option (E × St) := atN Tryz.prog c_defect_Count an_defect_Count 22 (bodyOf Tryz.f34) i n s
noncomputable def H_defect_Count (n i : Nat) (s : St) : Option (E × St) := atH Tryz.prog c_defect_Count an_defect_Count 22 (bodyOf Tryz.f34) n i s
@[simp] theorem H_defect_Count_eq (n i : Nat) (s : St) : H_defect_Count n i s = L_defect_Count i n (headOf (an_defect_Count.loops.lookup i) s) := rfl
noncomputable def R_defect_Count (i : Nat) (s : St) : Option (E × St) := stepL Tryz.prog c_defect_Count an_defect_Count 22 (bodyOf Tryz.f34) i s
theorem lok_defect_Count : okLoops (bodyOf Tryz.f34) = true := by kernel_rfl
theorem L_defect_Count_zero (i : Nat) (s : St) : L_defect_Count i 0 s = none := rfl
theorem L_defect_Count_succ (i n : Nat) (s : St) : L_defect_Count i (n + 1) s = andThen (R_defect_Count i s) (H_defect_Count n i) := atN_succ lok_defect_Count i n s
theorem R_defect_Count_eq (i : Nat) (s : St) : R_defect_Count i s = runS Tryz.prog c_defect_Count (H_defect_Count bigL) an_defect_Count 22 (loopAt (bodyOf Tryz.f34) i) s := rfl
noncomputable def F_defect_Count (ds : List D) : Option D := runF Tryz.prog c_defect_Count an_defect_Count 22 (bodyOf Tryz.f34) [.tmp 4] ds
theorem F_defect_Count_eq (ds : List D) : F_defect_Count ds = runG Tryz.prog c_defect_Count (H_defect_Count bigL) an_defect_Count 22 (bodyOf Tryz.f34) [.tmp 4] ds := runG_eq lok_defect_Count _ ds
theorem C_defect_Count (ds : List D) (r : D) (h : F_defect_Count ds = some r) : Contract Tryz.prog gl 34 ds r := contract_of mix Tryz.func34 rfl (by kernel_rfl) (by kernel_rfl) (by decide) (call := c_defect_Count) ⟨callOf_ok cl_defect_Count trivial, callOfE_ok ce_defect_Count trivial⟩ h
-- sawmill/span.size: loops []; state: params 0..0, then [1, 2]
attribute [simp] Tryz.f114
noncomputable def an_span_size : Ann := ⟨[1, 2], [7], [], [], [], some [2], [], [], [(39, 0, 51, 2)], []⟩
@[simp] theorem an_span_size_draws : an_span_size.draws = [] := rfl
@[simp] theorem an_span_size_exits : an_span_size.exits = [] := rfl
@[simp] theorem an_span_size_rets : an_span_size.rets = some [2] := rfl
@[simp] theorem an_span_size_keep : an_span_size.keep = [1, 2] := rfl
@[simp] theorem an_span_size_cond : an_span_size.cond = [7] := rfl
@[simp] theorem an_span_size_rows : an_span_size.rows = [] := rfl
@[simp] theorem an_span_size_loops : an_span_size.loops = [] := rfl
@[simp] theorem an_span_size_ecalls : an_span_size.ecalls = [] := rfl
@[simp] theorem an_span_size_crows : an_span_size.crows = [(39, 0, 51, 2)] := rfl
@[simp] theorem an_span_size_tails : an_span_size.tails = [] := rfl
@[simp] noncomputable def cl_span_size : List (Nat × (List D → Option D)) := []
@[simp] noncomputable def ce_span_size : List (Nat × (List (Nat × O) → List D → Option (D × List (Nat × O)))) := []
noncomputable def c_span_size : CT := ⟨callOf (cl_span_size ), callOfE ce_span_size, gl⟩
@[simp] theorem c_span_size_p (f : FuncId) (ds : List D) : c_span_size.p f ds = callOf (cl_span_size ) f ds := Eq.trans rfl rfl
@[simp] theorem c_span_size_e (f : FuncId) (hs : List (Nat × O)) (ds : List D) : c_span_size.e f hs ds = callOfE ce_span_size f hs ds := Eq.trans rfl rfl
@[simp] theorem c_span_size_g (g : Nat) : c_span_size.g g = gl g := Eq.trans rfl rfl
noncomputable def L_span_size (i n : Nat) (s : St) : Option (E × St) := atN Tryz.prog c_span_size an_span_size 15 (bodyOf Tryz.f114) i n s
noncomputable def H_span_size (n i : Nat) (s : St) : Option (E × St) := atH Tryz.prog c_span_size an_span_size 15 (bodyOf Tryz.f114) n i s
@[simp] theorem H_span_size_eq (n i : Nat) (s : St) : H_span_size n i s = L_span_size i n (headOf (an_span_size.loops.lookup i) s) := rfl
noncomputable def R_span_size (i : Nat) (s : St) : Option (E × St) := stepL Tryz.prog c_span_size an_span_size 15 (bodyOf Tryz.f114) i s
theorem lok_span_size : okLoops (bodyOf Tryz.f114) = true := by kernel_rfl
noncomputable def F_span_size (ds : List D) : Option D := runF Tryz.prog c_span_size an_span_size 15 (bodyOf Tryz.f114) [.tmp 2] ds
theorem F_span_size_eq (ds : List D) : F_span_size ds = runG Tryz.prog c_span_size (H_span_size bigL) an_span_size 15 (bodyOf Tryz.f114) [.tmp 2] ds := runG_eq lok_span_size _ ds
theorem C_span_size (ds : List D) (r : D) (h : F_span_size ds = some r) : Contract Tryz.prog gl 114 ds r := contract_of mix Tryz.func114 rfl (by kernel_rfl) (by kernel_rfl) (by decide) (call := c_span_size) ⟨callOf_ok cl_span_size trivial, callOfE_ok ce_span_size trivial⟩ h
-- sawmill/span.limited: loops []; state: params 0..0, then [2]
attribute [simp] Tryz.f113
noncomputable def an_span_limited : Ann := ⟨[2], [], [], [], [], some [2], [], [], [(39, 0, 51, 2)], []⟩
@[simp] theorem an_span_limited_draws : an_span_limited.draws = [] := rfl
@[simp] theorem an_span_limited_exits : an_span_limited.exits = [] := rfl
@[simp] theorem an_span_limited_rets : an_span_limited.rets = some [2] := rfl
@[simp] theorem an_span_limited_keep : an_span_limited.keep = [2] := rfl
@[simp] theorem an_span_limited_cond : an_span_limited.cond = [] := rfl
@[simp] theorem an_span_limited_rows : an_span_limited.rows = [] := rfl
@[simp] theorem an_span_limited_loops : an_span_limited.loops = [] := rfl
@[simp] theorem an_span_limited_ecalls : an_span_limited.ecalls = [] := rfl
@[simp] theorem an_span_limited_crows : an_span_limited.crows = [(39, 0, 51, 2)] := rfl
@[simp] theorem an_span_limited_tails : an_span_limited.tails = [] := rfl
@[simp] noncomputable def cl_span_limited : List (Nat × (List D → Option D)) := []
@[simp] noncomputable def ce_span_limited : List (Nat × (List (Nat × O) → List D → Option (D × List (Nat × O)))) := []
noncomputable def c_span_limited : CT := ⟨callOf (cl_span_limited ), callOfE ce_span_limited, gl⟩
@[simp] theorem c_span_limited_p (f : FuncId) (ds : List D) : c_span_limited.p f ds = callOf (cl_span_limited ) f ds := Eq.trans rfl rfl
@[simp] theorem c_span_limited_e (f : FuncId) (hs : List (Nat × O)) (ds : List D) : c_span_limited.e f hs ds = callOfE ce_span_limited f hs ds := Eq.trans rfl rfl
@[simp] theorem c_span_limited_g (g : Nat) : c_span_limited.g g = gl g := Eq.trans rfl rfl
noncomputable def L_span_limited (i n : Nat) (s : St) : Option (E × St) := atN Tryz.prog c_span_limited an_span_limited 6 (bodyOf Tryz.f113) i n s
noncomputable def H_span_limited (n i : Nat) (s : St) : Option (E × St) := atH Tryz.prog c_span_limited an_span_limited 6 (bodyOf Tryz.f113) n i s
@[simp] theorem H_span_limited_eq (n i : Nat) (s : St) : H_span_limited n i s = L_span_limited i n (headOf (an_span_limited.loops.lookup i) s) := rfl
noncomputable def R_span_limited (i : Nat) (s : St) : Option (E × St) := stepL Tryz.prog c_span_limited an_span_limited 6 (bodyOf Tryz.f113) i s
theorem lok_span_limited : okLoops (bodyOf Tryz.f113) = true := by kernel_rfl
noncomputable def F_span_limited (ds : List D) : Option D := runF Tryz.prog c_span_limited an_span_limited 6 (bodyOf Tryz.f113) [.tmp 2] ds
theorem F_span_limited_eq (ds : List D) : F_span_limited ds = runG Tryz.prog c_span_limited (H_span_limited bigL) an_span_limited 6 (bodyOf Tryz.f113) [.tmp 2] ds := runG_eq lok_span_limited _ ds
theorem C_span_limited (ds : List D) (r : D) (h : F_span_limited ds = some r) : Contract Tryz.prog gl 113 ds r := contract_of mix Tryz.func113 rfl (by kernel_rfl) (by kernel_rfl) (by decide) (call := c_span_limited) ⟨callOf_ok cl_span_limited trivial, callOfE_ok ce_span_limited trivial⟩ h
-- sawmill/span.Len: loops []; state: params 0..0, then [1, 2]
attribute [simp] Tryz.f102
noncomputable def an_span_Len : Ann := ⟨[1, 2], [], [], [], [], some [2], [], [], [(39, 0, 51, 2)], []⟩
@[simp] theorem an_span_Len_draws : an_span_Len.draws = [] := rfl
@[simp] theorem an_span_Len_exits : an_span_Len.exits = [] := rfl
@[simp] theorem an_span_Len_rets : an_span_Len.rets = some [2] := rfl
@[simp] theorem an_span_Len_keep : an_span_Len.keep = [1, 2] := rfl
@[simp] theorem an_span_Len_cond : an_span_Len.cond = [] := rfl
@[simp] theorem an_span_Len_rows : an_span_Len.rows = [] := rfl
@[simp] theorem an_span_Len_loops : an_span_Len.loops = [] := rfl
@[simp] theorem an_span_Len_ecalls : an_span_Len.ecalls = [] := rfl
@[simp] theorem an_span_Len_crows : an_span_Len.crows = [(39, 0, 51, 2)] := rfl
@[simp] theorem an_span_Len_tails : an_span_Len.tails = [] := rfl
@[simp] noncomputable def cl_span_Len : List (Nat × (List D → Option D)) := [(113, F_span_limited), (114, F_span_size)]
@[simp] noncomputable def ce_span_Len : List (Nat × (List (Nat × O) → List D → Option (D × List (Nat × O)))) := []
noncomputable def c_span_Len : CT := ⟨callOf (cl_span_Len ), callOfE ce_span_Len, gl⟩
@[simp] theorem c_span_Len_p (f : FuncId) (ds : List D) : c_span_Len.p f ds = callOf (cl_span_Len ) f ds := Eq.trans rfl rfl
@[simp] theorem c_span_Len_e (f : FuncId) (hs : List (Nat × O)) (ds : List D) : c_span_Len.e f hs ds = callOfE ce_span_Len f hs ds := Eq.trans rfl rfl
@[simp] theorem c_span_Len_g (g : Nat) : c_span_Len.g g = gl g := Eq.trans rfl rfl
noncomputable def L_span_Len (i n : Nat) (s : St) : Option (E × St) := atN Tryz.prog c_span_Len an_span_Len 6 (bodyOf Tryz.f102) i n s
noncomputable def H_span_Len (n i : Nat) (s : St) : Option (E × St) := atH Tryz.prog c_span_Len an_span_Len 6 (bodyOf Tryz.f102) n i s
@[simp] theorem H_span_Len_eq (n i : Nat) (s : St) : H_span_Len n i s = L_span_Len i n (headOf (an_span_Len.loops.lookup i) s) := rfl
noncomputable def R_span_Len (i : Nat) (s : St) : Option (E × St) := stepL Tryz.prog c_span_Len an_span_Len 6 (bodyOf Tryz.f102) i s
theorem lok_span_Len : okLoops (bodyOf Tryz.f102) = true := by kernel_rfl
noncomputable def F_span_Len (ds : List D) : Option D := runF Tryz.prog c_span_Len an_span_Len 6 (bodyOf Tryz.f102) [.tmp 2] ds
theorem F_span_Len_eq (ds : List D) : F_span_Len ds = runG Tryz.prog c_span_Len (H_span_Len bigL) an_span_Len 6 (bodyOf Tryz.f102) [.tmp 2] ds := runG_eq lok_span_Len _ ds
theorem C_span_Len (ds : List D) (r : D) (h : F_span_Len ds = some r) : Contract Tryz.prog gl 102 ds r := contract_of mix Tryz.func102 rfl (by kernel_rfl) (by kernel_rfl) (by decide) (call := c_span_Len) ⟨callOf_ok cl_span_Len ⟨C_span_limited, C_span_size, trivial⟩, callOfE_ok ce_span_Len trivial⟩ h
-- sawmill/defect.Size: loops []; state: params 0..0, then [1, 2]
attribute [simp] Tryz.f72
noncomputable def an_defect_Size : Ann := ⟨[1, 2], [], [], [], [], some [2], [(1, 7)], [], [(39, 0, 51, 2)], []⟩
@[simp] theorem an_defect_Size_draws : an_defect_Size.draws = [(1, 7)] := rfl
@[simp] theorem an_defect_Size_exits : an_defect_Size.exits = [] := rfl
@[simp] theorem an_defect_Size_rets : an_defect_Size.rets = some [2] := rfl
@[simp] theorem an_defect_Size_keep : an_defect_Size.keep = [1, 2] := rfl
@[simp] theorem an_defect_Size_cond : an_defect_Size.cond = [] := rfl
@[simp] theorem an_defect_Size_rows : an_defect_Size.rows = [] := rfl
@[simp] theorem an_defect_Size_loops : an_defect_Size.loops = [] := rfl
@[simp] theorem an_defect_Size_ecalls : an_defect_Size.ecalls = [] := rfl
@[simp] theorem an_defect_Size_crows : an_defect_Size.crows = [(39, 0, 51, 2)] := rfl
@[simp] theorem an_defect_Size_tails : an_defect_Size.tails = [] := rfl
@[simp] noncomputable def cl_defect_Size : List (Nat × (List D → Option D)) := [(102, F_span_Len)]
@[simp] noncomputable def ce_defect_Size : List (Nat × (List (Nat × O) → List D → Option (D × List (Nat × O)))) := []
noncomputable def c_defect_Size : CT := ⟨callOf (cl_defect_Size ), callOfE ce_defect_Size, gl⟩
@[simp] theorem c_defect_Size_p (f : FuncId) (ds : List D) : c_defect_Size.p f ds = callOf (cl_defect_Size ) f ds := Eq.trans rfl rfl
@[simp] theorem c_defect_Size_e (f : FuncId) (hs : List (Nat × O)) (ds : List D) : c_defect_Size.e f hs ds = callOfE ce_defect_Size f hs ds := Eq.trans rfl rfl
@[simp] theorem c_defect_Size_g (g : Nat) : c_defect_Size.g g = gl g := Eq.trans rfl rfl
noncomputable def L_defect_Size (i n : Nat) (s : St) : Option (E × St) := atN Tryz.prog c_defect_Size an_defect_Size 12 (bodyOf Tryz.f72) i n s
noncomputable def H_defect_Size (n i : Nat) (s : St) : Option (E × St) := atH Tryz.prog c_defect_Size an_defect_Size 12 (bodyOf Tryz.f72) n i s
@[simp] theorem H_defect_Size_eq (n i : Nat) (s : St) : H_defect_Size n i s = L_defect_Size i n (headOf (an_defect_Size.loops.lookup i) s) := rfl
noncomputable def R_defect_Size (i : Nat) (s : St) : Option (E × St) := stepL Tryz.prog c_defect_Size an_defect_Size 12 (bodyOf Tryz.f72) i s
theorem lok_defect_Size : okLoops (bodyOf Tryz.f72) = true := by kernel_rfl
noncomputable def F_defect_Size (ds : List D) : Option D := runF Tryz.prog c_defect_Size an_defect_Size 12 (bodyOf Tryz.f72) [.tmp 2] ds
theorem F_defect_Size_eq (ds : List D) : F_defect_Size ds = runG Tryz.prog c_defect_Size (H_defect_Size bigL) an_defect_Size 12 (bodyOf Tryz.f72) [.tmp 2] ds := runG_eq lok_defect_Size _ ds
theorem C_defect_Size (ds : List D) (r : D) (h : F_defect_Size ds = some r) : Contract Tryz.prog gl 72 ds r := contract_of mix Tryz.func72 rfl (by kernel_rfl) (by kernel_rfl) (by decide) (call := c_defect_Size) ⟨callOf_ok cl_defect_Size ⟨C_span_Len, trivial⟩, callOfE_ok ce_defect_Size trivial⟩ h
-- sawmill/defect.Largest: loops [3]; state: params 0..1, then [4, 5, 7, 8, 9, 10]
attribute [simp] Tryz.f35
noncomputable def an_defect_Largest : Ann := ⟨[4, 5, 7, 8, 9, 10], [11, 17], [], [(3, [1, 5, 8, 9, 10])], [(0, [5]), (1, [1, 5, 8, 9, 10])], some [4], [], [], [(39, 0, 51, 2)], []⟩
@[simp] theorem an_defect_Largest_draws : an_defect_Largest.draws = [] := rfl
@[simp] theorem an_defect_Largest_exits : an_defect_Largest.exits = [(0, [5]), (1, [1, 5, 8, 9, 10])] := rfl
@[simp] theorem an_defect_Largest_rets : an_defect_Largest.rets = some [4] := rfl
@[simp] theorem an_defect_Largest_keep : an_defect_Largest.keep = [4, 5, 7, 8, 9, 10] := rfl
@[simp] theorem an_defect_Largest_cond : an_defect_Largest.cond = [11, 17] := rfl
@[simp] theorem an_defect_Largest_rows : an_defect_Largest.rows = [] := rfl
@[simp] theorem an_defect_Largest_loops : an_defect_Largest.loops = [(3, [1, 5, 8, 9, 10])] := rfl
@[simp] theorem an_defect_Largest_ecalls : an_defect_Largest.ecalls = [] := rfl
@[simp] theorem an_defect_Largest_crows : an_defect_Largest.crows = [(39, 0, 51, 2)] := rfl
@[simp] theorem an_defect_Largest_tails : an_defect_Largest.tails = [] := rfl
@[simp] noncomputable def cl_defect_Largest : List (Nat × (List D → Option D)) := [(72, F_defect_Size)]
@[simp] noncomputable def ce_defect_Largest : List (Nat × (List (Nat × O) → List D → Option (D × List (Nat × O)))) := []
noncomputable def c_defect_Largest : CT := ⟨callOf (cl_defect_Largest ), callOfE ce_defect_Largest, gl⟩
@[simp] theorem c_defect_Largest_p (f : FuncId) (ds : List D) : c_defect_Largest.p f ds = callOf (cl_defect_Largest ) f ds := Eq.trans rfl rfl
@[simp] theorem c_defect_Largest_e (f : FuncId) (hs : List (Nat × O)) (ds : List D) : c_defect_Largest.e f hs ds = callOfE ce_defect_Largest f hs ds := Eq.trans rfl rfl
@[simp] theorem c_defect_Largest_g (g : Nat) : c_defect_Largest.g g = gl g := Eq.trans rfl rfl
noncomputable def L_defect_Largest (i n : Nat) (s : St) : Option (E × St) := atN Tryz.prog c_defect_Largest an_defect_Largest 24 (bodyOf Tryz.f35) i n s
noncomputable def H_defect_Largest (n i : Nat) (s : St) : Option (E × St) := atH Tryz.prog c_defect_Largest an_defect_Largest 24 (bodyOf Tryz.f35) n i s
@[simp] theorem H_defect_Largest_eq (n i : Nat) (s : St) : H_defect_Largest n i s = L_defect_Largest i n (headOf (an_defect_Largest.loops.lookup i) s) := rfl
noncomputable def R_defect_Largest (i : Nat) (s : St) : Option (E × St) := stepL Tryz.prog c_defect_Largest an_defect_Largest 24 (bodyOf Tryz.f35) i s
theorem lok_defect_Largest : okLoops (bodyOf Tryz.f35) = true := by kernel_rfl
theorem L_defect_Largest_zero (i : Nat) (s : St) : L_defect_Largest i 0 s = none := rfl
theorem L_defect_Largest_succ (i n : Nat) (s : St) : L_defect_Largest i (n + 1) s = andThen (R_defect_Largest i s) (H_defect_Largest n i) := atN_succ lok_defect_Largest i n s
theorem R_defect_Largest_eq (i : Nat) (s : St) : R_defect_Largest i s = runS Tryz.prog c_defect_Largest (H_defect_Largest bigL) an_defect_Largest 24 (loopAt (bodyOf Tryz.f35) i) s := rfl
noncomputable def F_defect_Largest (ds : List D) : Option D := runF Tryz.prog c_defect_Largest an_defect_Largest 24 (bodyOf Tryz.f35) [.tmp 4] ds
theorem F_defect_Largest_eq (ds : List D) : F_defect_Largest ds = runG Tryz.prog c_defect_Largest (H_defect_Largest bigL) an_defect_Largest 24 (bodyOf Tryz.f35) [.tmp 4] ds := runG_eq lok_defect_Largest _ ds
theorem C_defect_Largest (ds : List D) (r : D) (h : F_defect_Largest ds = some r) : Contract Tryz.prog gl 35 ds r := contract_of mix Tryz.func35 rfl (by kernel_rfl) (by kernel_rfl) (by decide) (call := c_defect_Largest) ⟨callOf_ok cl_defect_Largest ⟨C_defect_Size, trivial⟩, callOfE_ok ce_defect_Largest trivial⟩ h
-- sawmill/defect.isKnot: loops []; state: params 0..0, then [1, 2]
attribute [simp] Tryz.f73
noncomputable def an_defect_isKnot : Ann := ⟨[1, 2], [], [], [], [], some [2], [], [], [(39, 0, 51, 2)], []⟩
@[simp] theorem an_defect_isKnot_draws : an_defect_isKnot.draws = [] := rfl
@[simp] theorem an_defect_isKnot_exits : an_defect_isKnot.exits = [] := rfl
@[simp] theorem an_defect_isKnot_rets : an_defect_isKnot.rets = some [2] := rfl
@[simp] theorem an_defect_isKnot_keep : an_defect_isKnot.keep = [1, 2] := rfl
@[simp] theorem an_defect_isKnot_cond : an_defect_isKnot.cond = [] := rfl
@[simp] theorem an_defect_isKnot_rows : an_defect_isKnot.rows = [] := rfl
@[simp] theorem an_defect_isKnot_loops : an_defect_isKnot.loops = [] := rfl
@[simp] theorem an_defect_isKnot_ecalls : an_defect_isKnot.ecalls = [] := rfl
@[simp] theorem an_defect_isKnot_crows : an_defect_isKnot.crows = [(39, 0, 51, 2)] := rfl
@[simp] theorem an_defect_isKnot_tails : an_defect_isKnot.tails = [] := rfl
@[simp] noncomputable def cl_defect_isKnot : List (Nat × (List D → Option D)) := []
@[simp] noncomputable def ce_defect_isKnot : List (Nat × (List (Nat × O) → List D → Option (D × List (Nat × O)))) := []
noncomputable def c_defect_isKnot : CT := ⟨callOf (cl_defect_isKnot ), callOfE ce_defect_isKnot, gl⟩
@[simp] theorem c_defect_isKnot_p (f : FuncId) (ds : List D) : c_defect_isKnot.p f ds = callOf (cl_defect_isKnot ) f ds := Eq.trans rfl rfl
@[simp] theorem c_defect_isKnot_e (f : FuncId) (hs : List (Nat × O)) (ds : List D) : c_defect_isKnot.e f hs ds = callOfE ce_defect_isKnot f hs ds := Eq.trans rfl rfl
@[simp] theorem c_defect_isKnot_g (g : Nat) : c_defect_isKnot.g g = gl g := Eq.trans rfl rfl
noncomputable def L_defect_isKnot (i n : Nat) (s : St) : Option (E × St) := atN Tryz.prog c_defect_isKnot an_defect_isKnot 11 (bodyOf Tryz.f73) i n s
noncomputable def H_defect_isKnot (n i : Nat) (s : St) : Option (E × St) := atH Tryz.prog c_defect_isKnot an_defect_isKnot 11 (bodyOf Tryz.f73) n i s
@[simp] theorem H_defect_isKnot_eq (n i : Nat) (s : St) : H_defect_isKnot n i s = L_defect_isKnot i n (headOf (an_defect_isKnot.loops.lookup i) s) := rfl
noncomputable def R_defect_isKnot (i : Nat) (s : St) : Option (E × St) := stepL Tryz.prog c_defect_isKnot an_defect_isKnot 11 (bodyOf Tryz.f73) i s
theorem lok_defect_isKnot : okLoops (bodyOf Tryz.f73) = true := by kernel_rfl
noncomputable def F_defect_isKnot (ds : List D) : Option D := runF Tryz.prog c_defect_isKnot an_defect_isKnot 11 (bodyOf Tryz.f73) [.tmp 2] ds
theorem F_defect_isKnot_eq (ds : List D) : F_defect_isKnot ds = runG Tryz.prog c_defect_isKnot (H_defect_isKnot bigL) an_defect_isKnot 11 (bodyOf Tryz.f73) [.tmp 2] ds := runG_eq lok_defect_isKnot _ ds
theorem C_defect_isKnot (ds : List D) (r : D) (h : F_defect_isKnot ds = some r) : Contract Tryz.prog gl 73 ds r := contract_of mix Tryz.func73 rfl (by kernel_rfl) (by kernel_rfl) (by decide) (call := c_defect_isKnot) ⟨callOf_ok cl_defect_isKnot trivial, callOfE_ok ce_defect_isKnot trivial⟩ h
-- sawmill/span.Meet: loops []; state: params 0..1, then [2, 3, 4, 5]
attribute [simp] Tryz.f75
noncomputable def an_span_Meet : Ann := ⟨[2, 3, 4, 5], [21], [], [], [], some [4], [], [], [(39, 0, 51, 2)], []⟩
@[simp] theorem an_span_Meet_draws : an_span_Meet.draws = [] := rfl
@[simp] theorem an_span_Meet_exits : an_span_Meet.exits = [] := rfl
@[simp] theorem an_span_Meet_rets : an_span_Meet.rets = some [4] := rfl
@[simp] theorem an_span_Meet_keep : an_span_Meet.keep = [2, 3, 4, 5] := rfl
@[simp] theorem an_span_Meet_cond : an_span_Meet.cond = [21] := rfl
@[simp] theorem an_span_Meet_rows : an_span_Meet.rows = [] := rfl
@[simp] theorem an_span_Meet_loops : an_span_Meet.loops = [] := rfl
@[simp] theorem an_span_Meet_ecalls : an_span_Meet.ecalls = [] := rfl
@[simp] theorem an_span_Meet_crows : an_span_Meet.crows = [(39, 0, 51, 2)] := rfl
@[simp] theorem an_span_Meet_tails : an_span_Meet.tails = [] := rfl
@[simp] noncomputable def cl_span_Meet : List (Nat × (List D → Option D)) := []
@[simp] noncomputable def ce_span_Meet : List (Nat × (List (Nat × O) → List D → Option (D × List (Nat × O)))) := []
noncomputable def c_span_Meet : CT := ⟨callOf (cl_span_Meet ), callOfE ce_span_Meet, gl⟩
@[simp] theorem c_span_Meet_p (f : FuncId) (ds : List D) : c_span_Meet.p f ds = callOf (cl_span_Meet ) f ds := Eq.trans rfl rfl
@[simp] theorem c_span_Meet_e (f : FuncId) (hs : List (Nat × O)) (ds : List D) : c_span_Meet.e f hs ds = callOfE ce_span_Meet f hs ds := Eq.trans rfl rfl
@[simp] theorem c_span_Meet_g (g : Nat) : c_span_Meet.g g = gl g := Eq.trans rfl rfl
noncomputable def L_span_Meet (i n : Nat) (s : St) : Option (E × St) := atN Tryz.prog c_span_Meet an_span_Meet 24 (bodyOf Tryz.f75) i n s
noncomputable def H_span_Meet (n i : Nat) (s : St) : Option (E × St) := atH Tryz.prog c_span_Meet an_span_Meet 24 (bodyOf Tryz.f75) n i s
@[simp] theorem H_span_Meet_eq (n i : Nat) (s : St) : H_span_Meet n i s = L_span_Meet i n (headOf (an_span_Meet.loops.lookup i) s) := rfl
noncomputable def R_span_Meet (i : Nat) (s : St) : Option (E × St) := stepL Tryz.prog c_span_Meet an_span_Meet 24 (bodyOf Tryz.f75) i s
theorem lok_span_Meet : okLoops (bodyOf Tryz.f75) = true := by kernel_rfl
noncomputable def F_span_Meet (ds : List D) : Option D := runF Tryz.prog c_span_Meet an_span_Meet 24 (bodyOf Tryz.f75) [.cell 4 23] ds
theorem F_span_Meet_eq (ds : List D) : F_span_Meet ds = runG Tryz.prog c_span_Meet (H_span_Meet bigL) an_span_Meet 24 (bodyOf Tryz.f75) [.cell 4 23] ds := runG_eq lok_span_Meet _ ds
theorem C_span_Meet (ds : List D) (r : D) (h : F_span_Meet ds = some r) : Contract Tryz.prog gl 75 ds r := contract_of mix Tryz.func75 rfl (by kernel_rfl) (by kernel_rfl) (by decide) (call := c_span_Meet) ⟨callOf_ok cl_span_Meet trivial, callOfE_ok ce_span_Meet trivial⟩ h
-- sawmill/defect.Worst: loops [5, 11]; state: params 0..1, then [4, 5, 7, 8, 9, 10, 12, 24, 25, 26, 42, 43, 44]
attribute [simp] Tryz.f36
noncomputable def an_defect_Worst : Ann := ⟨[0, 1, 4, 5, 7, 8, 9, 10, 12, 24, 25, 26, 42, 43, 44], [23, 27, 45, 58], [], [(5, [0, 1, 5, 24, 25, 26]), (11, [0, 1, 5, 9, 10, 24, 25, 26, 42, 43, 44])], [(0, [5]), (1, [0, 1, 5, 24, 25, 26]), (2, [0, 1, 5, 10, 24, 25, 26]), (3, [0, 1, 5, 9, 10, 24, 25, 26, 42, 43, 44])], some [4], [], [], [(39, 0, 51, 2)], []⟩
@[simp] theorem an_defect_Worst_draws : an_defect_Worst.draws = [] := rfl
@[simp] theorem an_defect_Worst_exits : an_defect_Worst.exits = [(0, [5]), (1, [0, 1, 5, 24, 25, 26]), (2, [0, 1, 5, 10, 24, 25, 26]), (3, [0, 1, 5, 9, 10, 24, 25, 26, 42, 43, 44])] := rfl
@[simp] theorem an_defect_Worst_rets : an_defect_Worst.rets = some [4] := rfl
@[simp] theorem an_defect_Worst_keep : an_defect_Worst.keep = [0, 1, 4, 5, 7, 8, 9, 10, 12, 24, 25, 26, 42, 43, 44] := rfl
@[simp] theorem an_defect_Worst_cond : an_defect_Worst.cond = [23, 27, 45, 58] := rfl
@[simp] theorem an_defect_Worst_rows : an_defect_Worst.rows = [] := rfl
@[simp] theorem an_defect_Worst_loops : an_defect_Worst.loops = [(5, [0, 1, 5, 24, 25, 26]), (11, [0, 1, 5, 9, 10, 24, 25, 26, 42, 43, 44])] := rfl
@[simp] theorem an_defect_Worst_ecalls : an_defect_Worst.ecalls = [] := rfl
@[simp] theorem an_defect_Worst_crows : an_defect_Worst.crows = [(39, 0, 51, 2)] := rfl
@[simp] theorem an_defect_Worst_tails : an_defect_Worst.tails = [] := rfl
@[simp] noncomputable def cl_defect_Worst : List (Nat × (List D → Option D)) := [(65, F_defect_Check), (72, F_defect_Size), (73, F_defect_isKnot), (74, F_defect_isEmpty), (75, F_span_Meet)]
@[simp] noncomputable def ce_defect_Worst : List (Nat × (List (Nat × O) → List D → Option (D × List (Nat × O)))) := []
noncomputable def c_defect_Worst : CT := ⟨callOf (cl_defect_Worst ), callOfE ce_defect_Worst, gl⟩
@[simp] theorem c_defect_Worst_p (f : FuncId) (ds : List D) : c_defect_Worst.p f ds = callOf (cl_defect_Worst ) f ds := Eq.trans rfl rfl
@[simp] theorem c_defect_Worst_e (f : FuncId) (hs : List (Nat × O)) (ds : List D) : c_defect_Worst.e f hs ds = callOfE ce_defect_Worst f hs ds := Eq.trans rfl rfl
@[simp] theorem c_defect_Worst_g (g : Nat) : c_defect_Worst.g g = gl g := Eq.trans rfl rfl
noncomputable def L_defect_Worst (i n : Nat) (s : St) : Option (E × St) := atN Tryz.prog c_defect_Worst an_defect_Worst 69 (bodyOf Tryz.f36) i n s
noncomputable def H_defect_Worst (n i : Nat) (s : St) : Option (E × St) := atH Tryz.prog c_defect_Worst an_defect_Worst 69 (bodyOf Tryz.f36) n i s
@[simp] theorem H_defect_Worst_eq (n i : Nat) (s : St) : H_defect_Worst n i s = L_defect_Worst i n (headOf (an_defect_Worst.loops.lookup i) s) := rfl
noncomputable def R_defect_Worst (i : Nat) (s : St) : Option (E × St) := stepL Tryz.prog c_defect_Worst an_defect_Worst 69 (bodyOf Tryz.f36) i s
theorem lok_defect_Worst : okLoops (bodyOf Tryz.f36) = true := by kernel_rfl
theorem L_defect_Worst_zero (i : Nat) (s : St) : L_defect_Worst i 0 s = none := rfl
theorem L_defect_Worst_succ (i n : Nat) (s : St) : L_defect_Worst i (n + 1) s = andThen (R_defect_Worst i s) (H_defect_Worst n i) := atN_succ lok_defect_Worst i n s
theorem R_defect_Worst_eq (i : Nat) (s : St) : R_defect_Worst i s = runS Tryz.prog c_defect_Worst (H_defect_Worst bigL) an_defect_Worst 69 (loopAt (bodyOf Tryz.f36) i) s := rfl
noncomputable def F_defect_Worst (ds : List D) : Option D := runF Tryz.prog c_defect_Worst an_defect_Worst 69 (bodyOf Tryz.f36) [.tmp 4] ds
theorem F_defect_Worst_eq (ds : List D) : F_defect_Worst ds = runG Tryz.prog c_defect_Worst (H_defect_Worst bigL) an_defect_Worst 69 (bodyOf Tryz.f36) [.tmp 4] ds := runG_eq lok_defect_Worst _ ds
theorem C_defect_Worst (ds : List D) (r : D) (h : F_defect_Worst ds = some r) : Contract Tryz.prog gl 36 ds r := contract_of mix Tryz.func36 rfl (by kernel_rfl) (by kernel_rfl) (by decide) (call := c_defect_Worst) ⟨callOf_ok cl_defect_Worst ⟨C_defect_Check, C_defect_Size, C_defect_isKnot, C_defect_isEmpty, C_span_Meet, trivial⟩, callOfE_ok ce_defect_Worst trivial⟩ h
-- sawmill/moist.Check: loops []; state: params 0..0, then [1, 2]
attribute [simp] Tryz.f76
noncomputable def an_moist_Check : Ann := ⟨[1, 2], [20, 28], [], [], [], some [2], [], [], [(39, 0, 51, 2)], []⟩
@[simp] theorem an_moist_Check_draws : an_moist_Check.draws = [] := rfl
@[simp] theorem an_moist_Check_exits : an_moist_Check.exits = [] := rfl
@[simp] theorem an_moist_Check_rets : an_moist_Check.rets = some [2] := rfl
@[simp] theorem an_moist_Check_keep : an_moist_Check.keep = [1, 2] := rfl
@[simp] theorem an_moist_Check_cond : an_moist_Check.cond = [20, 28] := rfl
@[simp] theorem an_moist_Check_rows : an_moist_Check.rows = [] := rfl
@[simp] theorem an_moist_Check_loops : an_moist_Check.loops = [] := rfl
@[simp] theorem an_moist_Check_ecalls : an_moist_Check.ecalls = [] := rfl
@[simp] theorem an_moist_Check_crows : an_moist_Check.crows = [(39, 0, 51, 2)] := rfl
@[simp] theorem an_moist_Check_tails : an_moist_Check.tails = [] := rfl
@[simp] noncomputable def cl_moist_Check : List (Nat × (List D → Option D)) := []
@[simp] noncomputable def ce_moist_Check : List (Nat × (List (Nat × O) → List D → Option (D × List (Nat × O)))) := []
noncomputable def c_moist_Check : CT := ⟨callOf (cl_moist_Check ), callOfE ce_moist_Check, gl⟩
@[simp] theorem c_moist_Check_p (f : FuncId) (ds : List D) : c_moist_Check.p f ds = callOf (cl_moist_Check ) f ds := Eq.trans rfl rfl
@[simp] theorem c_moist_Check_e (f : FuncId) (hs : List (Nat × O)) (ds : List D) : c_moist_Check.e f hs ds = callOfE ce_moist_Check f hs ds := Eq.trans rfl rfl
@[simp] theorem c_moist_Check_g (g : Nat) : c_moist_Check.g g = gl g := Eq.trans rfl rfl
noncomputable def L_moist_Check (i n : Nat) (s : St) : Option (E × St) := atN Tryz.prog c_moist_Check an_moist_Check 29 (bodyOf Tryz.f76) i n s
noncomputable def H_moist_Check (n i : Nat) (s : St) : Option (E × St) := atH Tryz.prog c_moist_Check an_moist_Check 29 (bodyOf Tryz.f76) n i s
@[simp] theorem H_moist_Check_eq (n i : Nat) (s : St) : H_moist_Check n i s = L_moist_Check i n (headOf (an_moist_Check.loops.lookup i) s) := rfl
noncomputable def R_moist_Check (i : Nat) (s : St) : Option (E × St) := stepL Tryz.prog c_moist_Check an_moist_Check 29 (bodyOf Tryz.f76) i s
theorem lok_moist_Check : okLoops (bodyOf Tryz.f76) = true := by kernel_rfl
noncomputable def F_moist_Check (ds : List D) : Option D := runF Tryz.prog c_moist_Check an_moist_Check 29 (bodyOf Tryz.f76) [.tmp 2] ds
theorem F_moist_Check_eq (ds : List D) : F_moist_Check ds = runG Tryz.prog c_moist_Check (H_moist_Check bigL) an_moist_Check 29 (bodyOf Tryz.f76) [.tmp 2] ds := runG_eq lok_moist_Check _ ds
theorem C_moist_Check (ds : List D) (r : D) (h : F_moist_Check ds = some r) : Contract Tryz.prog gl 76 ds r := contract_of mix Tryz.func76 rfl (by kernel_rfl) (by kernel_rfl) (by decide) (call := c_moist_Check) ⟨callOf_ok cl_moist_Check trivial, callOfE_ok ce_moist_Check trivial⟩ h
-- sawmill/moist.Checks: loops []; state: params 0..1, then [2, 3, 4]
attribute [simp] Tryz.f37
noncomputable def an_moist_Checks : Ann := ⟨[2, 3, 4], [12], [], [], [], some [4], [], [], [(39, 0, 51, 2)], []⟩
@[simp] theorem an_moist_Checks_draws : an_moist_Checks.draws = [] := rfl
@[simp] theorem an_moist_Checks_exits : an_moist_Checks.exits = [] := rfl
@[simp] theorem an_moist_Checks_rets : an_moist_Checks.rets = some [4] := rfl
@[simp] theorem an_moist_Checks_keep : an_moist_Checks.keep = [2, 3, 4] := rfl
@[simp] theorem an_moist_Checks_cond : an_moist_Checks.cond = [12] := rfl
@[simp] theorem an_moist_Checks_rows : an_moist_Checks.rows = [] := rfl
@[simp] theorem an_moist_Checks_loops : an_moist_Checks.loops = [] := rfl
@[simp] theorem an_moist_Checks_ecalls : an_moist_Checks.ecalls = [] := rfl
@[simp] theorem an_moist_Checks_crows : an_moist_Checks.crows = [(39, 0, 51, 2)] := rfl
@[simp] theorem an_moist_Checks_tails : an_moist_Checks.tails = [] := rfl
@[simp] noncomputable def cl_moist_Checks : List (Nat × (List D → Option D)) := [(76, F_moist_Check)]
@[simp] noncomputable def ce_moist_Checks : List (Nat × (List (Nat × O) → List D → Option (D × List (Nat × O)))) := []
noncomputable def c_moist_Checks : CT := ⟨callOf (cl_moist_Checks ), callOfE ce_moist_Checks, gl⟩
@[simp] theorem c_moist_Checks_p (f : FuncId) (ds : List D) : c_moist_Checks.p f ds = callOf (cl_moist_Checks ) f ds := Eq.trans rfl rfl
@[simp] theorem c_moist_Checks_e (f : FuncId) (hs : List (Nat × O)) (ds : List D) : c_moist_Checks.e f hs ds = callOfE ce_moist_Checks f hs ds := Eq.trans rfl rfl
@[simp] theorem c_moist_Checks_g (g : Nat) : c_moist_Checks.g g = gl g := Eq.trans rfl rfl
noncomputable def L_moist_Checks (i n : Nat) (s : St) : Option (E × St) := atN Tryz.prog c_moist_Checks an_moist_Checks 18 (bodyOf Tryz.f37) i n s
noncomputable def H_moist_Checks (n i : Nat) (s : St) : Option (E × St) := atH Tryz.prog c_moist_Checks an_moist_Checks 18 (bodyOf Tryz.f37) n i s
@[simp] theorem H_moist_Checks_eq (n i : Nat) (s : St) : H_moist_Checks n i s = L_moist_Checks i n (headOf (an_moist_Checks.loops.lookup i) s) := rfl
noncomputable def R_moist_Checks (i : Nat) (s : St) : Option (E × St) := stepL Tryz.prog c_moist_Checks an_moist_Checks 18 (bodyOf Tryz.f37) i s
theorem lok_moist_Checks : okLoops (bodyOf Tryz.f37) = true := by kernel_rfl
noncomputable def F_moist_Checks (ds : List D) : Option D := runF Tryz.prog c_moist_Checks an_moist_Checks 18 (bodyOf Tryz.f37) [.tmp 4] ds
theorem F_moist_Checks_eq (ds : List D) : F_moist_Checks ds = runG Tryz.prog c_moist_Checks (H_moist_Checks bigL) an_moist_Checks 18 (bodyOf Tryz.f37) [.tmp 4] ds := runG_eq lok_moist_Checks _ ds
theorem C_moist_Checks (ds : List D) (r : D) (h : F_moist_Checks ds = some r) : Contract Tryz.prog gl 37 ds r := contract_of mix Tryz.func37 rfl (by kernel_rfl) (by kernel_rfl) (by decide) (call := c_moist_Checks) ⟨callOf_ok cl_moist_Checks ⟨C_moist_Check, trivial⟩, callOfE_ok ce_moist_Checks trivial⟩ h
-- sawmill/moist.Mean: loops []; state: params 0..0, then [1, 2]
attribute [simp] Tryz.f38
noncomputable def an_moist_Mean : Ann := ⟨[1, 2], [5], [], [], [], some [2], [], [], [(39, 0, 51, 2)], []⟩
@[simp] theorem an_moist_Mean_draws : an_moist_Mean.draws = [] := rfl
@[simp] theorem an_moist_Mean_exits : an_moist_Mean.exits = [] := rfl
@[simp] theorem an_moist_Mean_rets : an_moist_Mean.rets = some [2] := rfl
@[simp] theorem an_moist_Mean_keep : an_moist_Mean.keep = [1, 2] := rfl
@[simp] theorem an_moist_Mean_cond : an_moist_Mean.cond = [5] := rfl
@[simp] theorem an_moist_Mean_rows : an_moist_Mean.rows = [] := rfl
@[simp] theorem an_moist_Mean_loops : an_moist_Mean.loops = [] := rfl
@[simp] theorem an_moist_Mean_ecalls : an_moist_Mean.ecalls = [] := rfl
@[simp] theorem an_moist_Mean_crows : an_moist_Mean.crows = [(39, 0, 51, 2)] := rfl
@[simp] theorem an_moist_Mean_tails : an_moist_Mean.tails = [] := rfl
@[simp] noncomputable def cl_moist_Mean : List (Nat × (List D → Option D)) := [(76, F_moist_Check)]
@[simp] noncomputable def ce_moist_Mean : List (Nat × (List (Nat × O) → List D → Option (D × List (Nat × O)))) := []
noncomputable def c_moist_Mean : CT := ⟨callOf (cl_moist_Mean ), callOfE ce_moist_Mean, gl⟩
@[simp] theorem c_moist_Mean_p (f : FuncId) (ds : List D) : c_moist_Mean.p f ds = callOf (cl_moist_Mean ) f ds := Eq.trans rfl rfl
@[simp] theorem c_moist_Mean_e (f : FuncId) (hs : List (Nat × O)) (ds : List D) : c_moist_Mean.e f hs ds = callOfE ce_moist_Mean f hs ds := Eq.trans rfl rfl
@[simp] theorem c_moist_Mean_g (g : Nat) : c_moist_Mean.g g = gl g := Eq.trans rfl rfl
noncomputable def L_moist_Mean (i n : Nat) (s : St) : Option (E × St) := atN Tryz.prog c_moist_Mean an_moist_Mean 13 (bodyOf Tryz.f38) i n s
noncomputable def H_moist_Mean (n i : Nat) (s : St) : Option (E × St) := atH Tryz.prog c_moist_Mean an_moist_Mean 13 (bodyOf Tryz.f38) n i s
@[simp] theorem H_moist_Mean_eq (n i : Nat) (s : St) : H_moist_Mean n i s = L_moist_Mean i n (headOf (an_moist_Mean.loops.lookup i) s) := rfl
noncomputable def R_moist_Mean (i : Nat) (s : St) : Option (E × St) := stepL Tryz.prog c_moist_Mean an_moist_Mean 13 (bodyOf Tryz.f38) i s
theorem lok_moist_Mean : okLoops (bodyOf Tryz.f38) = true := by kernel_rfl
noncomputable def F_moist_Mean (ds : List D) : Option D := runF Tryz.prog c_moist_Mean an_moist_Mean 13 (bodyOf Tryz.f38) [.tmp 2] ds
theorem F_moist_Mean_eq (ds : List D) : F_moist_Mean ds = runG Tryz.prog c_moist_Mean (H_moist_Mean bigL) an_moist_Mean 13 (bodyOf Tryz.f38) [.tmp 2] ds := runG_eq lok_moist_Mean _ ds
theorem C_moist_Mean (ds : List D) (r : D) (h : F_moist_Mean ds = some r) : Contract Tryz.prog gl 38 ds r := contract_of mix Tryz.func38 rfl (by kernel_rfl) (by kernel_rfl) (by decide) (call := c_moist_Mean) ⟨callOf_ok cl_moist_Mean ⟨C_moist_Check, trivial⟩, callOfE_ok ce_moist_Mean trivial⟩ h
-- sawmill/moist.Gradient: loops []; state: params 0..0, then [1, 2]
attribute [simp] Tryz.f39
noncomputable def an_moist_Gradient : Ann := ⟨[1, 2], [5], [], [], [], some [2], [], [], [(39, 0, 51, 2)], []⟩
@[simp] theorem an_moist_Gradient_draws : an_moist_Gradient.draws = [] := rfl
@[simp] theorem an_moist_Gradient_exits : an_moist_Gradient.exits = [] := rfl
@[simp] theorem an_moist_Gradient_rets : an_moist_Gradient.rets = some [2] := rfl
@[simp] theorem an_moist_Gradient_keep : an_moist_Gradient.keep = [1, 2] := rfl
@[simp] theorem an_moist_Gradient_cond : an_moist_Gradient.cond = [5] := rfl
@[simp] theorem an_moist_Gradient_rows : an_moist_Gradient.rows = [] := rfl
@[simp] theorem an_moist_Gradient_loops : an_moist_Gradient.loops = [] := rfl
@[simp] theorem an_moist_Gradient_ecalls : an_moist_Gradient.ecalls = [] := rfl
@[simp] theorem an_moist_Gradient_crows : an_moist_Gradient.crows = [(39, 0, 51, 2)] := rfl
@[simp] theorem an_moist_Gradient_tails : an_moist_Gradient.tails = [] := rfl
@[simp] noncomputable def cl_moist_Gradient : List (Nat × (List D → Option D)) := [(76, F_moist_Check)]
@[simp] noncomputable def ce_moist_Gradient : List (Nat × (List (Nat × O) → List D → Option (D × List (Nat × O)))) := []
noncomputable def c_moist_Gradient : CT := ⟨callOf (cl_moist_Gradient ), callOfE ce_moist_Gradient, gl⟩
@[simp] theorem c_moist_Gradient_p (f : FuncId) (ds : List D) : c_moist_Gradient.p f ds = callOf (cl_moist_Gradient ) f ds := Eq.trans rfl rfl
@[simp] theorem c_moist_Gradient_e (f : FuncId) (hs : List (Nat × O)) (ds : List D) : c_moist_Gradient.e f hs ds = callOfE ce_moist_Gradient f hs ds := Eq.trans rfl rfl
@[simp] theorem c_moist_Gradient_g (g : Nat) : c_moist_Gradient.g g = gl g := Eq.trans rfl rfl
noncomputable def L_moist_Gradient (i n : Nat) (s : St) : Option (E × St) := atN Tryz.prog c_moist_Gradient an_moist_Gradient 11 (bodyOf Tryz.f39) i n s
noncomputable def H_moist_Gradient (n i : Nat) (s : St) : Option (E × St) := atH Tryz.prog c_moist_Gradient an_moist_Gradient 11 (bodyOf Tryz.f39) n i s
@[simp] theorem H_moist_Gradient_eq (n i : Nat) (s : St) : H_moist_Gradient n i s = L_moist_Gradient i n (headOf (an_moist_Gradient.loops.lookup i) s) := rfl
noncomputable def R_moist_Gradient (i : Nat) (s : St) : Option (E × St) := stepL Tryz.prog c_moist_Gradient an_moist_Gradient 11 (bodyOf Tryz.f39) i s
theorem lok_moist_Gradient : okLoops (bodyOf Tryz.f39) = true := by kernel_rfl
noncomputable def F_moist_Gradient (ds : List D) : Option D := runF Tryz.prog c_moist_Gradient an_moist_Gradient 11 (bodyOf Tryz.f39) [.tmp 2] ds
theorem F_moist_Gradient_eq (ds : List D) : F_moist_Gradient ds = runG Tryz.prog c_moist_Gradient (H_moist_Gradient bigL) an_moist_Gradient 11 (bodyOf Tryz.f39) [.tmp 2] ds := runG_eq lok_moist_Gradient _ ds
theorem C_moist_Gradient (ds : List D) (r : D) (h : F_moist_Gradient ds = some r) : Contract Tryz.prog gl 39 ds r := contract_of mix Tryz.func39 rfl (by kernel_rfl) (by kernel_rfl) (by decide) (call := c_moist_Gradient) ⟨callOf_ok cl_moist_Gradient ⟨C_moist_Check, trivial⟩, callOfE_ok ce_moist_Gradient trivial⟩ h
-- sawmill/sizing.across: loops []; state: params 0..0, then [1, 2]
attribute [simp] Tryz.f103
noncomputable def an_sizing_across : Ann := ⟨[1, 2], [], [], [], [], some [2], [], [], [(39, 0, 51, 2)], []⟩
@[simp] theorem an_sizing_across_draws : an_sizing_across.draws = [] := rfl
@[simp] theorem an_sizing_across_exits : an_sizing_across.exits = [] := rfl
@[simp] theorem an_sizing_across_rets : an_sizing_across.rets = some [2] := rfl
@[simp] theorem an_sizing_across_keep : an_sizing_across.keep = [1, 2] := rfl
@[simp] theorem an_sizing_across_cond : an_sizing_across.cond = [] := rfl
@[simp] theorem an_sizing_across_rows : an_sizing_across.rows = [] := rfl
@[simp] theorem an_sizing_across_loops : an_sizing_across.loops = [] := rfl
@[simp] theorem an_sizing_across_ecalls : an_sizing_across.ecalls = [] := rfl
@[simp] theorem an_sizing_across_crows : an_sizing_across.crows = [(39, 0, 51, 2)] := rfl
@[simp] theorem an_sizing_across_tails : an_sizing_across.tails = [] := rfl
@[simp] noncomputable def cl_sizing_across : List (Nat × (List D → Option D)) := []
@[simp] noncomputable def ce_sizing_across : List (Nat × (List (Nat × O) → List D → Option (D × List (Nat × O)))) := []
noncomputable def c_sizing_across : CT := ⟨callOf (cl_sizing_across ), callOfE ce_sizing_across, gl⟩
@[simp] theorem c_sizing_across_p (f : FuncId) (ds : List D) : c_sizing_across.p f ds = callOf (cl_sizing_across ) f ds := Eq.trans rfl rfl
@[simp] theorem c_sizing_across_e (f : FuncId) (hs : List (Nat × O)) (ds : List D) : c_sizing_across.e f hs ds = callOfE ce_sizing_across f hs ds := Eq.trans rfl rfl
@[simp] theorem c_sizing_across_g (g : Nat) : c_sizing_across.g g = gl g := Eq.trans rfl rfl
noncomputable def L_sizing_across (i n : Nat) (s : St) : Option (E × St) := atN Tryz.prog c_sizing_across an_sizing_across 18 (bodyOf Tryz.f103) i n s
noncomputable def H_sizing_across (n i : Nat) (s : St) : Option (E × St) := atH Tryz.prog c_sizing_across an_sizing_across 18 (bodyOf Tryz.f103) n i s
@[simp] theorem H_sizing_across_eq (n i : Nat) (s : St) : H_sizing_across n i s = L_sizing_across i n (headOf (an_sizing_across.loops.lookup i) s) := rfl
noncomputable def R_sizing_across (i : Nat) (s : St) : Option (E × St) := stepL Tryz.prog c_sizing_across an_sizing_across 18 (bodyOf Tryz.f103) i s
theorem lok_sizing_across : okLoops (bodyOf Tryz.f103) = true := by kernel_rfl
noncomputable def F_sizing_across (ds : List D) : Option D := runF Tryz.prog c_sizing_across an_sizing_across 18 (bodyOf Tryz.f103) [.tmp 2] ds
theorem F_sizing_across_eq (ds : List D) : F_sizing_across ds = runG Tryz.prog c_sizing_across (H_sizing_across bigL) an_sizing_across 18 (bodyOf Tryz.f103) [.tmp 2] ds := runG_eq lok_sizing_across _ ds
theorem C_sizing_across (ds : List D) (r : D) (h : F_sizing_across ds = some r) : Contract Tryz.prog gl 103 ds r := contract_of mix Tryz.func103 rfl (by kernel_rfl) (by kernel_rfl) (by decide) (call := c_sizing_across) ⟨callOf_ok cl_sizing_across trivial, callOfE_ok ce_sizing_across trivial⟩ h
-- sawmill/units.Clamp: loops []; state: params 0..2, then [6]
attribute [simp] Tryz.f115
noncomputable def an_units_Clamp : Ann := ⟨[0, 1, 2, 6], [7, 17], [], [], [(0, [0])], some [6], [], [], [(39, 0, 51, 2)], []⟩
@[simp] theorem an_units_Clamp_draws : an_units_Clamp.draws = [] := rfl
@[simp] theorem an_units_Clamp_exits : an_units_Clamp.exits = [(0, [0])] := rfl
@[simp] theorem an_units_Clamp_rets : an_units_Clamp.rets = some [6] := rfl
@[simp] theorem an_units_Clamp_keep : an_units_Clamp.keep = [0, 1, 2, 6] := rfl
@[simp] theorem an_units_Clamp_cond : an_units_Clamp.cond = [7, 17] := rfl
@[simp] theorem an_units_Clamp_rows : an_units_Clamp.rows = [] := rfl
@[simp] theorem an_units_Clamp_loops : an_units_Clamp.loops = [] := rfl
@[simp] theorem an_units_Clamp_ecalls : an_units_Clamp.ecalls = [] := rfl
@[simp] theorem an_units_Clamp_crows : an_units_Clamp.crows = [(39, 0, 51, 2)] := rfl
@[simp] theorem an_units_Clamp_tails : an_units_Clamp.tails = [] := rfl
@[simp] noncomputable def cl_units_Clamp : List (Nat × (List D → Option D)) := []
@[simp] noncomputable def ce_units_Clamp : List (Nat × (List (Nat × O) → List D → Option (D × List (Nat × O)))) := []
noncomputable def c_units_Clamp : CT := ⟨callOf (cl_units_Clamp ), callOfE ce_units_Clamp, gl⟩
@[simp] theorem c_units_Clamp_p (f : FuncId) (ds : List D) : c_units_Clamp.p f ds = callOf (cl_units_Clamp ) f ds := Eq.trans rfl rfl
@[simp] theorem c_units_Clamp_e (f : FuncId) (hs : List (Nat × O)) (ds : List D) : c_units_Clamp.e f hs ds = callOfE ce_units_Clamp f hs ds := Eq.trans rfl rfl
@[simp] theorem c_units_Clamp_g (g : Nat) : c_units_Clamp.g g = gl g := Eq.trans rfl rfl
noncomputable def L_units_Clamp (i n : Nat) (s : St) : Option (E × St) := atN Tryz.prog c_units_Clamp an_units_Clamp 23 (bodyOf Tryz.f115) i n s
noncomputable def H_units_Clamp (n i : Nat) (s : St) : Option (E × St) := atH Tryz.prog c_units_Clamp an_units_Clamp 23 (bodyOf Tryz.f115) n i s
@[simp] theorem H_units_Clamp_eq (n i : Nat) (s : St) : H_units_Clamp n i s = L_units_Clamp i n (headOf (an_units_Clamp.loops.lookup i) s) := rfl
noncomputable def R_units_Clamp (i : Nat) (s : St) : Option (E × St) := stepL Tryz.prog c_units_Clamp an_units_Clamp 23 (bodyOf Tryz.f115) i s
theorem lok_units_Clamp : okLoops (bodyOf Tryz.f115) = true := by kernel_rfl
noncomputable def F_units_Clamp (ds : List D) : Option D := runF Tryz.prog c_units_Clamp an_units_Clamp 23 (bodyOf Tryz.f115) [.tmp 6] ds
theorem F_units_Clamp_eq (ds : List D) : F_units_Clamp ds = runG Tryz.prog c_units_Clamp (H_units_Clamp bigL) an_units_Clamp 23 (bodyOf Tryz.f115) [.tmp 6] ds := runG_eq lok_units_Clamp _ ds
theorem C_units_Clamp (ds : List D) (r : D) (h : F_units_Clamp ds = some r) : Contract Tryz.prog gl 115 ds r := contract_of mix Tryz.func115 rfl (by kernel_rfl) (by kernel_rfl) (by decide) (call := c_units_Clamp) ⟨callOf_ok cl_units_Clamp trivial, callOfE_ok ce_units_Clamp trivial⟩ h
-- sawmill/wood.Shrunk: loops []; state: params 0..2, then [3, 6, 7]
attribute [simp] Tryz.f104
noncomputable def an_wood_Shrunk : Ann := ⟨[1, 3, 6, 7], [23], [], [], [], some [6], [], [], [(39, 0, 51, 2)], []⟩
@[simp] theorem an_wood_Shrunk_draws : an_wood_Shrunk.draws = [] := rfl
@[simp] theorem an_wood_Shrunk_exits : an_wood_Shrunk.exits = [] := rfl
@[simp] theorem an_wood_Shrunk_rets : an_wood_Shrunk.rets = some [6] := rfl
@[simp] theorem an_wood_Shrunk_keep : an_wood_Shrunk.keep = [1, 3, 6, 7] := rfl
@[simp] theorem an_wood_Shrunk_cond : an_wood_Shrunk.cond = [23] := rfl
@[simp] theorem an_wood_Shrunk_rows : an_wood_Shrunk.rows = [] := rfl
@[simp] theorem an_wood_Shrunk_loops : an_wood_Shrunk.loops = [] := rfl
@[simp] theorem an_wood_Shrunk_ecalls : an_wood_Shrunk.ecalls = [] := rfl
@[simp] theorem an_wood_Shrunk_crows : an_wood_Shrunk.crows = [(39, 0, 51, 2)] := rfl
@[simp] theorem an_wood_Shrunk_tails : an_wood_Shrunk.tails = [] := rfl
@[simp] noncomputable def cl_wood_Shrunk : List (Nat × (List D → Option D)) := [(115, F_units_Clamp)]
@[simp] noncomputable def ce_wood_Shrunk : List (Nat × (List (Nat × O) → List D → Option (D × List (Nat × O)))) := []
noncomputable def c_wood_Shrunk : CT := ⟨callOf (cl_wood_Shrunk ), callOfE ce_wood_Shrunk, gl⟩
@[simp] theorem c_wood_Shrunk_p (f : FuncId) (ds : List D) : c_wood_Shrunk.p f ds = callOf (cl_wood_Shrunk ) f ds := Eq.trans rfl rfl
@[simp] theorem c_wood_Shrunk_e (f : FuncId) (hs : List (Nat × O)) (ds : List D) : c_wood_Shrunk.e f hs ds = callOfE ce_wood_Shrunk f hs ds := Eq.trans rfl rfl
@[simp] theorem c_wood_Shrunk_g (g : Nat) : c_wood_Shrunk.g g = gl g := Eq.trans rfl rfl
noncomputable def L_wood_Shrunk (i n : Nat) (s : St) : Option (E × St) := atN Tryz.prog c_wood_Shrunk an_wood_Shrunk 37 (bodyOf Tryz.f104) i n s
noncomputable def H_wood_Shrunk (n i : Nat) (s : St) : Option (E × St) := atH Tryz.prog c_wood_Shrunk an_wood_Shrunk 37 (bodyOf Tryz.f104) n i s
@[simp] theorem H_wood_Shrunk_eq (n i : Nat) (s : St) : H_wood_Shrunk n i s = L_wood_Shrunk i n (headOf (an_wood_Shrunk.loops.lookup i) s) := rfl
noncomputable def R_wood_Shrunk (i : Nat) (s : St) : Option (E × St) := stepL Tryz.prog c_wood_Shrunk an_wood_Shrunk 37 (bodyOf Tryz.f104) i s
theorem lok_wood_Shrunk : okLoops (bodyOf Tryz.f104) = true := by kernel_rfl
noncomputable def F_wood_Shrunk (ds : List D) : Option D := runF Tryz.prog c_wood_Shrunk an_wood_Shrunk 37 (bodyOf Tryz.f104) [.tmp 6] ds
theorem F_wood_Shrunk_eq (ds : List D) : F_wood_Shrunk ds = runG Tryz.prog c_wood_Shrunk (H_wood_Shrunk bigL) an_wood_Shrunk 37 (bodyOf Tryz.f104) [.tmp 6] ds := runG_eq lok_wood_Shrunk _ ds
theorem C_wood_Shrunk (ds : List D) (r : D) (h : F_wood_Shrunk ds = some r) : Contract Tryz.prog gl 104 ds r := contract_of mix Tryz.func104 rfl (by kernel_rfl) (by kernel_rfl) (by decide) (call := c_wood_Shrunk) ⟨callOf_ok cl_wood_Shrunk ⟨C_units_Clamp, trivial⟩, callOfE_ok ce_wood_Shrunk trivial⟩ h
-- sawmill/sizing.Dried: loops []; state: params 0..1, then [2, 3, 4, 5, 6, 7, 8]
attribute [simp] Tryz.f77
noncomputable def an_sizing_Dried : Ann := ⟨[2, 3, 4, 5, 6, 7, 8], [20], [], [], [], some [4, 5], [(3, 19), (5, 11)], [], [(39, 0, 51, 2)], []⟩
@[simp] theorem an_sizing_Dried_draws : an_sizing_Dried.draws = [(3, 19), (5, 11)] := rfl
@[simp] theorem an_sizing_Dried_exits : an_sizing_Dried.exits = [] := rfl
@[simp] theorem an_sizing_Dried_rets : an_sizing_Dried.rets = some [4, 5] := rfl
@[simp] theorem an_sizing_Dried_keep : an_sizing_Dried.keep = [2, 3, 4, 5, 6, 7, 8] := rfl
@[simp] theorem an_sizing_Dried_cond : an_sizing_Dried.cond = [20] := rfl
@[simp] theorem an_sizing_Dried_rows : an_sizing_Dried.rows = [] := rfl
@[simp] theorem an_sizing_Dried_loops : an_sizing_Dried.loops = [] := rfl
@[simp] theorem an_sizing_Dried_ecalls : an_sizing_Dried.ecalls = [] := rfl
@[simp] theorem an_sizing_Dried_crows : an_sizing_Dried.crows = [(39, 0, 51, 2)] := rfl
@[simp] theorem an_sizing_Dried_tails : an_sizing_Dried.tails = [] := rfl
@[simp] noncomputable def cl_sizing_Dried : List (Nat × (List D → Option D)) := [(38, F_moist_Mean), (103, F_sizing_across), (104, F_wood_Shrunk)]
@[simp] noncomputable def ce_sizing_Dried : List (Nat × (List (Nat × O) → List D → Option (D × List (Nat × O)))) := []
noncomputable def c_sizing_Dried : CT := ⟨callOf (cl_sizing_Dried ), callOfE ce_sizing_Dried, gl⟩
@[simp] theorem c_sizing_Dried_p (f : FuncId) (ds : List D) : c_sizing_Dried.p f ds = callOf (cl_sizing_Dried ) f ds := Eq.trans rfl rfl
@[simp] theorem c_sizing_Dried_e (f : FuncId) (hs : List (Nat × O)) (ds : List D) : c_sizing_Dried.e f hs ds = callOfE ce_sizing_Dried f hs ds := Eq.trans rfl rfl
@[simp] theorem c_sizing_Dried_g (g : Nat) : c_sizing_Dried.g g = gl g := Eq.trans rfl rfl
noncomputable def L_sizing_Dried (i n : Nat) (s : St) : Option (E × St) := atN Tryz.prog c_sizing_Dried an_sizing_Dried 54 (bodyOf Tryz.f77) i n s
noncomputable def H_sizing_Dried (n i : Nat) (s : St) : Option (E × St) := atH Tryz.prog c_sizing_Dried an_sizing_Dried 54 (bodyOf Tryz.f77) n i s
@[simp] theorem H_sizing_Dried_eq (n i : Nat) (s : St) : H_sizing_Dried n i s = L_sizing_Dried i n (headOf (an_sizing_Dried.loops.lookup i) s) := rfl
noncomputable def R_sizing_Dried (i : Nat) (s : St) : Option (E × St) := stepL Tryz.prog c_sizing_Dried an_sizing_Dried 54 (bodyOf Tryz.f77) i s
theorem lok_sizing_Dried : okLoops (bodyOf Tryz.f77) = true := by kernel_rfl
noncomputable def F_sizing_Dried (ds : List D) : Option D := runF Tryz.prog c_sizing_Dried an_sizing_Dried 54 (bodyOf Tryz.f77) [.tmp 4, .tmp 5] ds
theorem F_sizing_Dried_eq (ds : List D) : F_sizing_Dried ds = runG Tryz.prog c_sizing_Dried (H_sizing_Dried bigL) an_sizing_Dried 54 (bodyOf Tryz.f77) [.tmp 4, .tmp 5] ds := runG_eq lok_sizing_Dried _ ds
theorem C_sizing_Dried (ds : List D) (r : D) (h : F_sizing_Dried ds = some r) : Contract Tryz.prog gl 77 ds r := contract_of mix Tryz.func77 rfl (by kernel_rfl) (by kernel_rfl) (by decide) (call := c_sizing_Dried) ⟨callOf_ok cl_sizing_Dried ⟨C_moist_Mean, C_sizing_across, C_wood_Shrunk, trivial⟩, callOfE_ok ce_sizing_Dried trivial⟩ h
-- sawmill/sizing.Under: loops []; state: params 0..2, then [3, 4, 5, 6, 7, 8]
attribute [simp] Tryz.f40
noncomputable def an_sizing_Under : Ann := ⟨[3, 4, 5, 6, 7, 8], [], [], [], [], some [6], [], [], [(39, 0, 51, 2)], []⟩
@[simp] theorem an_sizing_Under_draws : an_sizing_Under.draws = [] := rfl
@[simp] theorem an_sizing_Under_exits : an_sizing_Under.exits = [] := rfl
@[simp] theorem an_sizing_Under_rets : an_sizing_Under.rets = some [6] := rfl
@[simp] theorem an_sizing_Under_keep : an_sizing_Under.keep = [3, 4, 5, 6, 7, 8] := rfl
@[simp] theorem an_sizing_Under_cond : an_sizing_Under.cond = [] := rfl
@[simp] theorem an_sizing_Under_rows : an_sizing_Under.rows = [] := rfl
@[simp] theorem an_sizing_Under_loops : an_sizing_Under.loops = [] := rfl
@[simp] theorem an_sizing_Under_ecalls : an_sizing_Under.ecalls = [] := rfl
@[simp] theorem an_sizing_Under_crows : an_sizing_Under.crows = [(39, 0, 51, 2)] := rfl
@[simp] theorem an_sizing_Under_tails : an_sizing_Under.tails = [] := rfl
@[simp] noncomputable def cl_sizing_Under : List (Nat × (List D → Option D)) := [(77, F_sizing_Dried)]
@[simp] noncomputable def ce_sizing_Under : List (Nat × (List (Nat × O) → List D → Option (D × List (Nat × O)))) := []
noncomputable def c_sizing_Under : CT := ⟨callOf (cl_sizing_Under ), callOfE ce_sizing_Under, gl⟩
@[simp] theorem c_sizing_Under_p (f : FuncId) (ds : List D) : c_sizing_Under.p f ds = callOf (cl_sizing_Under ) f ds := Eq.trans rfl rfl
@[simp] theorem c_sizing_Under_e (f : FuncId) (hs : List (Nat × O)) (ds : List D) : c_sizing_Under.e f hs ds = callOfE ce_sizing_Under f hs ds := Eq.trans rfl rfl
@[simp] theorem c_sizing_Under_g (g : Nat) : c_sizing_Under.g g = gl g := Eq.trans rfl rfl
noncomputable def L_sizing_Under (i n : Nat) (s : St) : Option (E × St) := atN Tryz.prog c_sizing_Under an_sizing_Under 25 (bodyOf Tryz.f40) i n s
noncomputable def H_sizing_Under (n i : Nat) (s : St) : Option (E × St) := atH Tryz.prog c_sizing_Under an_sizing_Under 25 (bodyOf Tryz.f40) n i s
@[simp] theorem H_sizing_Under_eq (n i : Nat) (s : St) : H_sizing_Under n i s = L_sizing_Under i n (headOf (an_sizing_Under.loops.lookup i) s) := rfl
noncomputable def R_sizing_Under (i : Nat) (s : St) : Option (E × St) := stepL Tryz.prog c_sizing_Under an_sizing_Under 25 (bodyOf Tryz.f40) i s
theorem lok_sizing_Under : okLoops (bodyOf Tryz.f40) = true := by kernel_rfl
noncomputable def F_sizing_Under (ds : List D) : Option D := runF Tryz.prog c_sizing_Under an_sizing_Under 25 (bodyOf Tryz.f40) [.tmp 6] ds
theorem F_sizing_Under_eq (ds : List D) : F_sizing_Under ds = runG Tryz.prog c_sizing_Under (H_sizing_Under bigL) an_sizing_Under 25 (bodyOf Tryz.f40) [.tmp 6] ds := runG_eq lok_sizing_Under _ ds
theorem C_sizing_Under (ds : List D) (r : D) (h : F_sizing_Under ds = some r) : Contract Tryz.prog gl 40 ds r := contract_of mix Tryz.func40 rfl (by kernel_rfl) (by kernel_rfl) (by decide) (call := c_sizing_Under) ⟨callOf_ok cl_sizing_Under ⟨C_sizing_Dried, trivial⟩, callOfE_ok ce_sizing_Under trivial⟩ h
-- sawmill/strength.Knots: loops []; state: params 0..0, then [1, 2, 3]
attribute [simp] Tryz.f78
noncomputable def an_strength_Knots : Ann := ⟨[1, 2, 3], [14], [], [], [], some [2], [(1, 7)], [], [(39, 0, 51, 2)], []⟩
@[simp] theorem an_strength_Knots_draws : an_strength_Knots.draws = [(1, 7)] := rfl
@[simp] theorem an_strength_Knots_exits : an_strength_Knots.exits = [] := rfl
@[simp] theorem an_strength_Knots_rets : an_strength_Knots.rets = some [2] := rfl
@[simp] theorem an_strength_Knots_keep : an_strength_Knots.keep = [1, 2, 3] := rfl
@[simp] theorem an_strength_Knots_cond : an_strength_Knots.cond = [14] := rfl
@[simp] theorem an_strength_Knots_rows : an_strength_Knots.rows = [] := rfl
@[simp] theorem an_strength_Knots_loops : an_strength_Knots.loops = [] := rfl
@[simp] theorem an_strength_Knots_ecalls : an_strength_Knots.ecalls = [] := rfl
@[simp] theorem an_strength_Knots_crows : an_strength_Knots.crows = [(39, 0, 51, 2)] := rfl
@[simp] theorem an_strength_Knots_tails : an_strength_Knots.tails = [] := rfl
@[simp] noncomputable def cl_strength_Knots : List (Nat × (List D → Option D)) := [(36, F_defect_Worst), (102, F_span_Len)]
@[simp] noncomputable def ce_strength_Knots : List (Nat × (List (Nat × O) → List D → Option (D × List (Nat × O)))) := []
noncomputable def c_strength_Knots : CT := ⟨callOf (cl_strength_Knots ), callOfE ce_strength_Knots, gl⟩
@[simp] theorem c_strength_Knots_p (f : FuncId) (ds : List D) : c_strength_Knots.p f ds = callOf (cl_strength_Knots ) f ds := Eq.trans rfl rfl
@[simp] theorem c_strength_Knots_e (f : FuncId) (hs : List (Nat × O)) (ds : List D) : c_strength_Knots.e f hs ds = callOfE ce_strength_Knots f hs ds := Eq.trans rfl rfl
@[simp] theorem c_strength_Knots_g (g : Nat) : c_strength_Knots.g g = gl g := Eq.trans rfl rfl
noncomputable def L_strength_Knots (i n : Nat) (s : St) : Option (E × St) := atN Tryz.prog c_strength_Knots an_strength_Knots 22 (bodyOf Tryz.f78) i n s
noncomputable def H_strength_Knots (n i : Nat) (s : St) : Option (E × St) := atH Tryz.prog c_strength_Knots an_strength_Knots 22 (bodyOf Tryz.f78) n i s
@[simp] theorem H_strength_Knots_eq (n i : Nat) (s : St) : H_strength_Knots n i s = L_strength_Knots i n (headOf (an_strength_Knots.loops.lookup i) s) := rfl
noncomputable def R_strength_Knots (i : Nat) (s : St) : Option (E × St) := stepL Tryz.prog c_strength_Knots an_strength_Knots 22 (bodyOf Tryz.f78) i s
theorem lok_strength_Knots : okLoops (bodyOf Tryz.f78) = true := by kernel_rfl
noncomputable def F_strength_Knots (ds : List D) : Option D := runF Tryz.prog c_strength_Knots an_strength_Knots 22 (bodyOf Tryz.f78) [.tmp 2] ds
theorem F_strength_Knots_eq (ds : List D) : F_strength_Knots ds = runG Tryz.prog c_strength_Knots (H_strength_Knots bigL) an_strength_Knots 22 (bodyOf Tryz.f78) [.tmp 2] ds := runG_eq lok_strength_Knots _ ds
theorem C_strength_Knots (ds : List D) (r : D) (h : F_strength_Knots ds = some r) : Contract Tryz.prog gl 78 ds r := contract_of mix Tryz.func78 rfl (by kernel_rfl) (by kernel_rfl) (by decide) (call := c_strength_Knots) ⟨callOf_ok cl_strength_Knots ⟨C_defect_Worst, C_span_Len, trivial⟩, callOfE_ok ce_strength_Knots trivial⟩ h
-- sawmill/strength.Stiffness: loops []; state: params 0..1, then [2, 3, 4, 5, 6, 7]
attribute [simp] Tryz.f41
noncomputable def an_strength_Stiffness : Ann := ⟨[2, 3, 4, 5, 6, 7], [], [], [], [], some [4], [(1, 4)], [], [(39, 0, 51, 2)], []⟩
@[simp] theorem an_strength_Stiffness_draws : an_strength_Stiffness.draws = [(1, 4)] := rfl
@[simp] theorem an_strength_Stiffness_exits : an_strength_Stiffness.exits = [] := rfl
@[simp] theorem an_strength_Stiffness_rets : an_strength_Stiffness.rets = some [4] := rfl
@[simp] theorem an_strength_Stiffness_keep : an_strength_Stiffness.keep = [2, 3, 4, 5, 6, 7] := rfl
@[simp] theorem an_strength_Stiffness_cond : an_strength_Stiffness.cond = [] := rfl
@[simp] theorem an_strength_Stiffness_rows : an_strength_Stiffness.rows = [] := rfl
@[simp] theorem an_strength_Stiffness_loops : an_strength_Stiffness.loops = [] := rfl
@[simp] theorem an_strength_Stiffness_ecalls : an_strength_Stiffness.ecalls = [] := rfl
@[simp] theorem an_strength_Stiffness_crows : an_strength_Stiffness.crows = [(39, 0, 51, 2)] := rfl
@[simp] theorem an_strength_Stiffness_tails : an_strength_Stiffness.tails = [] := rfl
@[simp] noncomputable def cl_strength_Stiffness : List (Nat × (List D → Option D)) := [(38, F_moist_Mean), (78, F_strength_Knots)]
@[simp] noncomputable def ce_strength_Stiffness : List (Nat × (List (Nat × O) → List D → Option (D × List (Nat × O)))) := []
noncomputable def c_strength_Stiffness : CT := ⟨callOf (cl_strength_Stiffness ), callOfE ce_strength_Stiffness, gl⟩
@[simp] theorem c_strength_Stiffness_p (f : FuncId) (ds : List D) : c_strength_Stiffness.p f ds = callOf (cl_strength_Stiffness ) f ds := Eq.trans rfl rfl
@[simp] theorem c_strength_Stiffness_e (f : FuncId) (hs : List (Nat × O)) (ds : List D) : c_strength_Stiffness.e f hs ds = callOfE ce_strength_Stiffness f hs ds := Eq.trans rfl rfl
@[simp] theorem c_strength_Stiffness_g (g : Nat) : c_strength_Stiffness.g g = gl g := Eq.trans rfl rfl
noncomputable def L_strength_Stiffness (i n : Nat) (s : St) : Option (E × St) := atN Tryz.prog c_strength_Stiffness an_strength_Stiffness 31 (bodyOf Tryz.f41) i n s
noncomputable def H_strength_Stiffness (n i : Nat) (s : St) : Option (E × St) := atH Tryz.prog c_strength_Stiffness an_strength_Stiffness 31 (bodyOf Tryz.f41) n i s
@[simp] theorem H_strength_Stiffness_eq (n i : Nat) (s : St) : H_strength_Stiffness n i s = L_strength_Stiffness i n (headOf (an_strength_Stiffness.loops.lookup i) s) := rfl
noncomputable def R_strength_Stiffness (i : Nat) (s : St) : Option (E × St) := stepL Tryz.prog c_strength_Stiffness an_strength_Stiffness 31 (bodyOf Tryz.f41) i s
theorem lok_strength_Stiffness : okLoops (bodyOf Tryz.f41) = true := by kernel_rfl
noncomputable def F_strength_Stiffness (ds : List D) : Option D := runF Tryz.prog c_strength_Stiffness an_strength_Stiffness 31 (bodyOf Tryz.f41) [.tmp 4] ds
theorem F_strength_Stiffness_eq (ds : List D) : F_strength_Stiffness ds = runG Tryz.prog c_strength_Stiffness (H_strength_Stiffness bigL) an_strength_Stiffness 31 (bodyOf Tryz.f41) [.tmp 4] ds := runG_eq lok_strength_Stiffness _ ds
theorem C_strength_Stiffness (ds : List D) (r : D) (h : F_strength_Stiffness ds = some r) : Contract Tryz.prog gl 41 ds r := contract_of mix Tryz.func41 rfl (by kernel_rfl) (by kernel_rfl) (by decide) (call := c_strength_Stiffness) ⟨callOf_ok cl_strength_Stiffness ⟨C_moist_Mean, C_strength_Knots, trivial⟩, callOfE_ok ce_strength_Stiffness trivial⟩ h
-- sawmill/feature.Of: loops [11]; state: params 0..2, then [3, 5, 6, 7, 8, 9, 10, 12, 42, 43, 44]
attribute [simp] Tryz.f15
noncomputable def an_feature_Of : Ann := ⟨[1, 3, 5, 6, 7, 8, 9, 10, 12, 42, 43, 44], [22, 45, 93], [], [(11, [3, 5, 7, 9, 10, 42, 43, 44])], [(0, [3, 5, 7, 9, 10]), (1, [3, 5, 7, 9, 10, 42, 43, 44])], some [6], [], [(32, false)], [(39, 0, 51, 2)], []⟩
@[simp] theorem an_feature_Of_draws : an_feature_Of.draws = [] := rfl
@[simp] theorem an_feature_Of_exits : an_feature_Of.exits = [(0, [3, 5, 7, 9, 10]), (1, [3, 5, 7, 9, 10, 42, 43, 44])] := rfl
@[simp] theorem an_feature_Of_rets : an_feature_Of.rets = some [6] := rfl
@[simp] theorem an_feature_Of_keep : an_feature_Of.keep = [1, 3, 5, 6, 7, 8, 9, 10, 12, 42, 43, 44] := rfl
@[simp] theorem an_feature_Of_cond : an_feature_Of.cond = [22, 45, 93] := rfl
@[simp] theorem an_feature_Of_rows : an_feature_Of.rows = [] := rfl
@[simp] theorem an_feature_Of_loops : an_feature_Of.loops = [(11, [3, 5, 7, 9, 10, 42, 43, 44])] := rfl
@[simp] theorem an_feature_Of_ecalls : an_feature_Of.ecalls = [(32, false)] := rfl
@[simp] theorem an_feature_Of_crows : an_feature_Of.crows = [(39, 0, 51, 2)] := rfl
@[simp] theorem an_feature_Of_tails : an_feature_Of.tails = [] := rfl
@[simp] noncomputable def cl_feature_Of : List (Nat × (List D → Option D)) := [(14, F_feature_Names), (30, F_board_Check), (31, F_wood_Check), (33, F_board_Length), (34, F_defect_Count), (35, F_defect_Largest), (36, F_defect_Worst), (37, F_moist_Checks), (38, F_moist_Mean), (39, F_moist_Gradient), (40, F_sizing_Under), (41, F_strength_Stiffness)]
@[simp] noncomputable def ce_feature_Of : List (Nat × (List (Nat × O) → List D → Option (D × List (Nat × O)))) := [(32, E_feature_Of_1)]
noncomputable def c_feature_Of : CT := ⟨callOf (cl_feature_Of ), callOfE ce_feature_Of, gl⟩
@[simp] theorem c_feature_Of_p (f : FuncId) (ds : List D) : c_feature_Of.p f ds = callOf (cl_feature_Of ) f ds := Eq.trans rfl rfl
@[simp] theorem c_feature_Of_e (f : FuncId) (hs : List (Nat × O)) (ds : List D) : c_feature_Of.e f hs ds = callOfE ce_feature_Of f hs ds := Eq.trans rfl rfl
@[simp] theorem c_feature_Of_g (g : Nat) : c_feature_Of.g g = gl g := Eq.trans rfl rfl
noncomputable def L_feature_Of (i n : Nat) (s : St) : Option (E × St) := atN Tryz.prog c_feature_Of an_feature_Of 104 (bodyOf Tryz.f15) i n s
noncomputable def H_feature_Of (n i : Nat) (s : St) : Option (E × St) := atH Tryz.prog c_feature_Of an_feature_Of 104 (bodyOf Tryz.f15) n i s
@[simp] theorem H_feature_Of_eq (n i : Nat) (s : St) : H_feature_Of n i s = L_feature_Of i n (headOf (an_feature_Of.loops.lookup i) s) := rfl
noncomputable def R_feature_Of (i : Nat) (s : St) : Option (E × St) := stepL Tryz.prog c_feature_Of an_feature_Of 104 (bodyOf Tryz.f15) i s
theorem lok_feature_Of : okLoops (bodyOf Tryz.f15) = true := by kernel_rfl
theorem L_feature_Of_zero (i : Nat) (s : St) : L_feature_Of i 0 s = none := rfl
theorem L_feature_Of_succ (i n : Nat) (s : St) : L_feature_Of i (n + 1) s = andThen (R_feature_Of i s) (H_feature_Of n i) := atN_succ lok_feature_Of i n s
theorem R_feature_Of_eq (i : Nat) (s : St) : R_feature_Of i s = runS Tryz.prog c_feature_Of (H_feature_Of bigL) an_feature_Of 104 (loopAt (bodyOf Tryz.f15) i) s := rfl
noncomputable def F_feature_Of (ds : List D) : Option D := runF Tryz.prog c_feature_Of an_feature_Of 104 (bodyOf Tryz.f15) [.tmp 6] ds
theorem F_feature_Of_eq (ds : List D) : F_feature_Of ds = runG Tryz.prog c_feature_Of (H_feature_Of bigL) an_feature_Of 104 (bodyOf Tryz.f15) [.tmp 6] ds := runG_eq lok_feature_Of _ ds
theorem C_feature_Of (ds : List D) (r : D) (h : F_feature_Of ds = some r) : Contract Tryz.prog gl 15 ds r := contract_of mix Tryz.func15 rfl (by kernel_rfl) (by kernel_rfl) (by decide) (call := c_feature_Of) ⟨callOf_ok cl_feature_Of ⟨C_feature_Names, C_board_Check, C_wood_Check, C_board_Length, C_defect_Count, C_defect_Largest, C_defect_Worst, C_moist_Checks, C_moist_Mean, C_moist_Gradient, C_sizing_Under, C_strength_Stiffness, trivial⟩, callOfE_ok ce_feature_Of ⟨CE_feature_Of_1, trivial⟩⟩ h
-- sawmill/sawmilllaw42.of: loops []; state: params 0..0, then [1, 2]
attribute [simp] Tryz.f7
noncomputable def an_law42_of : Ann := ⟨[1, 2], [], [], [], [], some [2], [], [], [(39, 0, 51, 2)], []⟩
@[simp] theorem an_law42_of_draws : an_law42_of.draws = [] := rfl
@[simp] theorem an_law42_of_exits : an_law42_of.exits = [] := rfl
@[simp] theorem an_law42_of_rets : an_law42_of.rets = some [2] := rfl
@[simp] theorem an_law42_of_keep : an_law42_of.keep = [1, 2] := rfl
@[simp] theorem an_law42_of_cond : an_law42_of.cond = [] := rfl
@[simp] theorem an_law42_of_rows : an_law42_of.rows = [] := rfl
@[simp] theorem an_law42_of_loops : an_law42_of.loops = [] := rfl
@[simp] theorem an_law42_of_ecalls : an_law42_of.ecalls = [] := rfl
@[simp] theorem an_law42_of_crows : an_law42_of.crows = [(39, 0, 51, 2)] := rfl
@[simp] theorem an_law42_of_tails : an_law42_of.tails = [] := rfl
@[simp] noncomputable def cl_law42_of : List (Nat × (List D → Option D)) := [(15, F_feature_Of)]
@[simp] noncomputable def ce_law42_of : List (Nat × (List (Nat × O) → List D → Option (D × List (Nat × O)))) := []
noncomputable def c_law42_of : CT := ⟨callOf (cl_law42_of ), callOfE ce_law42_of, gl⟩
@[simp] theorem c_law42_of_p (f : FuncId) (ds : List D) : c_law42_of.p f ds = callOf (cl_law42_of ) f ds := Eq.trans rfl rfl
@[simp] theorem c_law42_of_e (f : FuncId) (hs : List (Nat × O)) (ds : List D) : c_law42_of.e f hs ds = callOfE ce_law42_of f hs ds := Eq.trans rfl rfl
@[simp] theorem c_law42_of_g (g : Nat) : c_law42_of.g g = gl g := Eq.trans rfl rfl
noncomputable def L_law42_of (i n : Nat) (s : St) : Option (E × St) := atN Tryz.prog c_law42_of an_law42_of 10 (bodyOf Tryz.f7) i n s
noncomputable def H_law42_of (n i : Nat) (s : St) : Option (E × St) := atH Tryz.prog c_law42_of an_law42_of 10 (bodyOf Tryz.f7) n i s
@[simp] theorem H_law42_of_eq (n i : Nat) (s : St) : H_law42_of n i s = L_law42_of i n (headOf (an_law42_of.loops.lookup i) s) := rfl
noncomputable def R_law42_of (i : Nat) (s : St) : Option (E × St) := stepL Tryz.prog c_law42_of an_law42_of 10 (bodyOf Tryz.f7) i s
theorem lok_law42_of : okLoops (bodyOf Tryz.f7) = true := by kernel_rfl
noncomputable def F_law42_of (ds : List D) : Option D := runF Tryz.prog c_law42_of an_law42_of 10 (bodyOf Tryz.f7) [.tmp 2] ds
theorem F_law42_of_eq (ds : List D) : F_law42_of ds = runG Tryz.prog c_law42_of (H_law42_of bigL) an_law42_of 10 (bodyOf Tryz.f7) [.tmp 2] ds := runG_eq lok_law42_of _ ds
theorem C_law42_of (ds : List D) (r : D) (h : F_law42_of ds = some r) : Contract Tryz.prog gl 7 ds r := contract_of mix Tryz.func7 rfl (by kernel_rfl) (by kernel_rfl) (by decide) (call := c_law42_of) ⟨callOf_ok cl_law42_of ⟨C_feature_Of, trivial⟩, callOfE_ok ce_law42_of trivial⟩ h
-- sawmill/sawmilllaw42.letter: loops [3]; state: params 0..0, then [2, 3, 4]
attribute [simp] Tryz.f29
noncomputable def an_law42_letter : Ann := ⟨[0, 2, 3, 4], [8], [], [(3, [0, 3, 4])], [(0, [3]), (1, [0, 3, 4])], some [2], [], [], [(39, 0, 51, 2)], []⟩
@[simp] theorem an_law42_letter_draws : an_law42_letter.draws = [] := rfl
@[simp] theorem an_law42_letter_exits : an_law42_letter.exits = [(0, [3]), (1, [0, 3, 4])] := rfl
@[simp] theorem an_law42_letter_rets : an_law42_letter.rets = some [2] := rfl
@[simp] theorem an_law42_letter_keep : an_law42_letter.keep = [0, 2, 3, 4] := rfl
@[simp] theorem an_law42_letter_cond : an_law42_letter.cond = [8] := rfl
@[simp] theorem an_law42_letter_rows : an_law42_letter.rows = [] := rfl
@[simp] theorem an_law42_letter_loops : an_law42_letter.loops = [(3, [0, 3, 4])] := rfl
@[simp] theorem an_law42_letter_ecalls : an_law42_letter.ecalls = [] := rfl
@[simp] theorem an_law42_letter_crows : an_law42_letter.crows = [(39, 0, 51, 2)] := rfl
@[simp] theorem an_law42_letter_tails : an_law42_letter.tails = [] := rfl
@[simp] noncomputable def cl_law42_letter : List (Nat × (List D → Option D)) := []
@[simp] noncomputable def ce_law42_letter : List (Nat × (List (Nat × O) → List D → Option (D × List (Nat × O)))) := []
noncomputable def c_law42_letter : CT := ⟨callOf (cl_law42_letter ), callOfE ce_law42_letter, gl⟩
@[simp] theorem c_law42_letter_p (f : FuncId) (ds : List D) : c_law42_letter.p f ds = callOf (cl_law42_letter ) f ds := Eq.trans rfl rfl
@[simp] theorem c_law42_letter_e (f : FuncId) (hs : List (Nat × O)) (ds : List D) : c_law42_letter.e f hs ds = callOfE ce_law42_letter f hs ds := Eq.trans rfl rfl
@[simp] theorem c_law42_letter_g (g : Nat) : c_law42_letter.g g = gl g := Eq.trans rfl rfl
noncomputable def L_law42_letter (i n : Nat) (s : St) : Option (E × St) := atN Tryz.prog c_law42_letter an_law42_letter 24 (bodyOf Tryz.f29) i n s
noncomputable def H_law42_letter (n i : Nat) (s : St) : Option (E × St) := atH Tryz.prog c_law42_letter an_law42_letter 24 (bodyOf Tryz.f29) n i s
@[simp] theorem H_law42_letter_eq (n i : Nat) (s : St) : H_law42_letter n i s = L_law42_letter i n (headOf (an_law42_letter.loops.lookup i) s) := rfl
noncomputable def R_law42_letter (i : Nat) (s : St) : Option (E × St) := stepL Tryz.prog c_law42_letter an_law42_letter 24 (bodyOf Tryz.f29) i s
theorem lok_law42_letter : okLoops (bodyOf Tryz.f29) = true := by kernel_rfl
theorem L_law42_letter_zero (i : Nat) (s : St) : L_law42_letter i 0 s = none := rfl
theorem L_law42_letter_succ (i n : Nat) (s : St) : L_law42_letter i (n + 1) s = andThen (R_law42_letter i s) (H_law42_letter n i) := atN_succ lok_law42_letter i n s
theorem R_law42_letter_eq (i : Nat) (s : St) : R_law42_letter i s = runS Tryz.prog c_law42_letter (H_law42_letter bigL) an_law42_letter 24 (loopAt (bodyOf Tryz.f29) i) s := rfl
noncomputable def F_law42_letter (ds : List D) : Option D := runF Tryz.prog c_law42_letter an_law42_letter 24 (bodyOf Tryz.f29) [.tmp 2] ds
theorem F_law42_letter_eq (ds : List D) : F_law42_letter ds = runG Tryz.prog c_law42_letter (H_law42_letter bigL) an_law42_letter 24 (bodyOf Tryz.f29) [.tmp 2] ds := runG_eq lok_law42_letter _ ds
theorem C_law42_letter (ds : List D) (r : D) (h : F_law42_letter ds = some r) : Contract Tryz.prog gl 29 ds r := contract_of mix Tryz.func29 rfl (by kernel_rfl) (by kernel_rfl) (by decide) (call := c_law42_letter) ⟨callOf_ok cl_law42_letter trivial, callOfE_ok ce_law42_letter trivial⟩ h
-- sawmill/sawmilllaw42.log: loops []; state: params 0..-1, then [0]
attribute [simp] Tryz.f11
noncomputable def an_law42_log : Ann := ⟨[0], [], [], [], [], some [0], [], [], [(39, 0, 51, 2)], []⟩
@[simp] theorem an_law42_log_draws : an_law42_log.draws = [] := rfl
@[simp] theorem an_law42_log_exits : an_law42_log.exits = [] := rfl
@[simp] theorem an_law42_log_rets : an_law42_log.rets = some [0] := rfl
@[simp] theorem an_law42_log_keep : an_law42_log.keep = [0] := rfl
@[simp] theorem an_law42_log_cond : an_law42_log.cond = [] := rfl
@[simp] theorem an_law42_log_rows : an_law42_log.rows = [] := rfl
@[simp] theorem an_law42_log_loops : an_law42_log.loops = [] := rfl
@[simp] theorem an_law42_log_ecalls : an_law42_log.ecalls = [] := rfl
@[simp] theorem an_law42_log_crows : an_law42_log.crows = [(39, 0, 51, 2)] := rfl
@[simp] theorem an_law42_log_tails : an_law42_log.tails = [] := rfl
@[simp] noncomputable def cl_law42_log : List (Nat × (List D → Option D)) := [(29, F_law42_letter)]
@[simp] noncomputable def ce_law42_log : List (Nat × (List (Nat × O) → List D → Option (D × List (Nat × O)))) := []
noncomputable def c_law42_log : CT := ⟨callOf (cl_law42_log ), callOfE ce_law42_log, gl⟩
@[simp] theorem c_law42_log_p (f : FuncId) (ds : List D) : c_law42_log.p f ds = callOf (cl_law42_log ) f ds := Eq.trans rfl rfl
@[simp] theorem c_law42_log_e (f : FuncId) (hs : List (Nat × O)) (ds : List D) : c_law42_log.e f hs ds = callOfE ce_law42_log f hs ds := Eq.trans rfl rfl
@[simp] theorem c_law42_log_g (g : Nat) : c_law42_log.g g = gl g := Eq.trans rfl rfl
noncomputable def L_law42_log (i n : Nat) (s : St) : Option (E × St) := atN Tryz.prog c_law42_log an_law42_log 5 (bodyOf Tryz.f11) i n s
noncomputable def H_law42_log (n i : Nat) (s : St) : Option (E × St) := atH Tryz.prog c_law42_log an_law42_log 5 (bodyOf Tryz.f11) n i s
@[simp] theorem H_law42_log_eq (n i : Nat) (s : St) : H_law42_log n i s = L_law42_log i n (headOf (an_law42_log.loops.lookup i) s) := rfl
noncomputable def R_law42_log (i : Nat) (s : St) : Option (E × St) := stepL Tryz.prog c_law42_log an_law42_log 5 (bodyOf Tryz.f11) i s
theorem lok_law42_log : okLoops (bodyOf Tryz.f11) = true := by kernel_rfl
noncomputable def F_law42_log (ds : List D) : Option D := runF Tryz.prog c_law42_log an_law42_log 5 (bodyOf Tryz.f11) [.tmp 0] ds
theorem F_law42_log_eq (ds : List D) : F_law42_log ds = runG Tryz.prog c_law42_log (H_law42_log bigL) an_law42_log 5 (bodyOf Tryz.f11) [.tmp 0] ds := runG_eq lok_law42_log _ ds
theorem C_law42_log (ds : List D) (r : D) (h : F_law42_log ds = some r) : Contract Tryz.prog gl 11 ds r := contract_of mix Tryz.func11 rfl (by kernel_rfl) (by kernel_rfl) (by decide) (call := c_law42_log) ⟨callOf_ok cl_law42_log ⟨C_law42_letter, trivial⟩, callOfE_ok ce_law42_log trivial⟩ h
-- sawmill/feature.Get: loops [2]; state: params 0..1, then [4, 5, 7, 8, 9, 10]
attribute [simp] Tryz.f12
noncomputable def an_feature_Get : Ann := ⟨[4, 5, 7, 8, 9, 10], [11, 17], [], [(2, [1, 8, 9, 10])], [(0, []), (1, [1, 8, 9, 10])], some [4, 5], [], [], [(39, 0, 51, 2)], []⟩
@[simp] theorem an_feature_Get_draws : an_feature_Get.draws = [] := rfl
@[simp] theorem an_feature_Get_exits : an_feature_Get.exits = [(0, []), (1, [1, 8, 9, 10])] := rfl
@[simp] theorem an_feature_Get_rets : an_feature_Get.rets = some [4, 5] := rfl
@[simp] theorem an_feature_Get_keep : an_feature_Get.keep = [4, 5, 7, 8, 9, 10] := rfl
@[simp] theorem an_feature_Get_cond : an_feature_Get.cond = [11, 17] := rfl
@[simp] theorem an_feature_Get_rows : an_feature_Get.rows = [] := rfl
@[simp] theorem an_feature_Get_loops : an_feature_Get.loops = [(2, [1, 8, 9, 10])] := rfl
@[simp] theorem an_feature_Get_ecalls : an_feature_Get.ecalls = [] := rfl
@[simp] theorem an_feature_Get_crows : an_feature_Get.crows = [(39, 0, 51, 2)] := rfl
@[simp] theorem an_feature_Get_tails : an_feature_Get.tails = [] := rfl
@[simp] noncomputable def cl_feature_Get : List (Nat × (List D → Option D)) := []
@[simp] noncomputable def ce_feature_Get : List (Nat × (List (Nat × O) → List D → Option (D × List (Nat × O)))) := []
noncomputable def c_feature_Get : CT := ⟨callOf (cl_feature_Get ), callOfE ce_feature_Get, gl⟩
@[simp] theorem c_feature_Get_p (f : FuncId) (ds : List D) : c_feature_Get.p f ds = callOf (cl_feature_Get ) f ds := Eq.trans rfl rfl
@[simp] theorem c_feature_Get_e (f : FuncId) (hs : List (Nat × O)) (ds : List D) : c_feature_Get.e f hs ds = callOfE ce_feature_Get f hs ds := Eq.trans rfl rfl
@[simp] theorem c_feature_Get_g (g : Nat) : c_feature_Get.g g = gl g := Eq.trans rfl rfl
noncomputable def L_feature_Get (i n : Nat) (s : St) : Option (E × St) := atN Tryz.prog c_feature_Get an_feature_Get 21 (bodyOf Tryz.f12) i n s
noncomputable def H_feature_Get (n i : Nat) (s : St) : Option (E × St) := atH Tryz.prog c_feature_Get an_feature_Get 21 (bodyOf Tryz.f12) n i s
@[simp] theorem H_feature_Get_eq (n i : Nat) (s : St) : H_feature_Get n i s = L_feature_Get i n (headOf (an_feature_Get.loops.lookup i) s) := rfl
noncomputable def R_feature_Get (i : Nat) (s : St) : Option (E × St) := stepL Tryz.prog c_feature_Get an_feature_Get 21 (bodyOf Tryz.f12) i s
theorem lok_feature_Get : okLoops (bodyOf Tryz.f12) = true := by kernel_rfl
theorem L_feature_Get_zero (i : Nat) (s : St) : L_feature_Get i 0 s = none := rfl
theorem L_feature_Get_succ (i n : Nat) (s : St) : L_feature_Get i (n + 1) s = andThen (R_feature_Get i s) (H_feature_Get n i) := atN_succ lok_feature_Get i n s
theorem R_feature_Get_eq (i : Nat) (s : St) : R_feature_Get i s = runS Tryz.prog c_feature_Get (H_feature_Get bigL) an_feature_Get 21 (loopAt (bodyOf Tryz.f12) i) s := rfl
noncomputable def F_feature_Get (ds : List D) : Option D := runF Tryz.prog c_feature_Get an_feature_Get 21 (bodyOf Tryz.f12) [.tmp 4, .tmp 5] ds
theorem F_feature_Get_eq (ds : List D) : F_feature_Get ds = runG Tryz.prog c_feature_Get (H_feature_Get bigL) an_feature_Get 21 (bodyOf Tryz.f12) [.tmp 4, .tmp 5] ds := runG_eq lok_feature_Get _ ds
theorem C_feature_Get (ds : List D) (r : D) (h : F_feature_Get ds = some r) : Contract Tryz.prog gl 12 ds r := contract_of mix Tryz.func12 rfl (by kernel_rfl) (by kernel_rfl) (by decide) (call := c_feature_Get) ⟨callOf_ok cl_feature_Get trivial, callOfE_ok ce_feature_Get trivial⟩ h
-- sawmill/sawmilllaw42.get: loops []; state: params 0..1, then [4, 5]
attribute [simp] Tryz.f13
noncomputable def an_law42_get : Ann := ⟨[4, 5], [], [], [], [], some [4], [], [], [(39, 0, 51, 2)], []⟩
@[simp] theorem an_law42_get_draws : an_law42_get.draws = [] := rfl
@[simp] theorem an_law42_get_exits : an_law42_get.exits = [] := rfl
@[simp] theorem an_law42_get_rets : an_law42_get.rets = some [4] := rfl
@[simp] theorem an_law42_get_keep : an_law42_get.keep = [4, 5] := rfl
@[simp] theorem an_law42_get_cond : an_law42_get.cond = [] := rfl
@[simp] theorem an_law42_get_rows : an_law42_get.rows = [] := rfl
@[simp] theorem an_law42_get_loops : an_law42_get.loops = [] := rfl
@[simp] theorem an_law42_get_ecalls : an_law42_get.ecalls = [] := rfl
@[simp] theorem an_law42_get_crows : an_law42_get.crows = [(39, 0, 51, 2)] := rfl
@[simp] theorem an_law42_get_tails : an_law42_get.tails = [] := rfl
@[simp] noncomputable def cl_law42_get : List (Nat × (List D → Option D)) := [(12, F_feature_Get)]
@[simp] noncomputable def ce_law42_get : List (Nat × (List (Nat × O) → List D → Option (D × List (Nat × O)))) := []
noncomputable def c_law42_get : CT := ⟨callOf (cl_law42_get ), callOfE ce_law42_get, gl⟩
@[simp] theorem c_law42_get_p (f : FuncId) (ds : List D) : c_law42_get.p f ds = callOf (cl_law42_get ) f ds := Eq.trans rfl rfl
@[simp] theorem c_law42_get_e (f : FuncId) (hs : List (Nat × O)) (ds : List D) : c_law42_get.e f hs ds = callOfE ce_law42_get f hs ds := Eq.trans rfl rfl
@[simp] theorem c_law42_get_g (g : Nat) : c_law42_get.g g = gl g := Eq.trans rfl rfl
noncomputable def L_law42_get (i n : Nat) (s : St) : Option (E × St) := atN Tryz.prog c_law42_get an_law42_get 14 (bodyOf Tryz.f13) i n s
noncomputable def H_law42_get (n i : Nat) (s : St) : Option (E × St) := atH Tryz.prog c_law42_get an_law42_get 14 (bodyOf Tryz.f13) n i s
@[simp] theorem H_law42_get_eq (n i : Nat) (s : St) : H_law42_get n i s = L_law42_get i n (headOf (an_law42_get.loops.lookup i) s) := rfl
noncomputable def R_law42_get (i : Nat) (s : St) : Option (E × St) := stepL Tryz.prog c_law42_get an_law42_get 14 (bodyOf Tryz.f13) i s
theorem lok_law42_get : okLoops (bodyOf Tryz.f13) = true := by kernel_rfl
noncomputable def F_law42_get (ds : List D) : Option D := runF Tryz.prog c_law42_get an_law42_get 14 (bodyOf Tryz.f13) [.tmp 4] ds
theorem F_law42_get_eq (ds : List D) : F_law42_get ds = runG Tryz.prog c_law42_get (H_law42_get bigL) an_law42_get 14 (bodyOf Tryz.f13) [.tmp 4] ds := runG_eq lok_law42_get _ ds
theorem C_law42_get (ds : List D) (r : D) (h : F_law42_get ds = some r) : Contract Tryz.prog gl 13 ds r := contract_of mix Tryz.func13 rfl (by kernel_rfl) (by kernel_rfl) (by decide) (call := c_law42_get) ⟨callOf_ok cl_law42_get ⟨C_feature_Get, trivial⟩, callOfE_ok ce_law42_get trivial⟩ h
-- sawmill/sawmilllaw42.sample, weakened: loops []
noncomputable def WF_law42_sample (ds : List D) : Option D := weakF F_law42_sample ds
theorem WF_law42_sample_eq (ds : List D) : WF_law42_sample ds = (F_law42_sample ds).map weakD := Eq.trans rfl rfl
theorem WC_law42_sample (ds : List D) (r : D) (h : WF_law42_sample ds = some r) : Contract Tryz.prog gl 10 ds r := weakF_ok C_law42_sample ds r h
-- sawmill/sawmilllaw42.awake: loops []; state: params 0..-1, then [0, 1, 2, 3, 5, 6, 7]
attribute [simp] Tryz.f5
noncomputable def an_law42_awake : Ann := ⟨[0, 1, 2, 3, 5, 6, 7], [], [], [], [], some [0], [], [], [(39, 0, 51, 2)], []⟩
@[simp] theorem an_law42_awake_draws : an_law42_awake.draws = [] := rfl
@[simp] theorem an_law42_awake_exits : an_law42_awake.exits = [] := rfl
@[simp] theorem an_law42_awake_rets : an_law42_awake.rets = some [0] := rfl
@[simp] theorem an_law42_awake_keep : an_law42_awake.keep = [0, 1, 2, 3, 5, 6, 7] := rfl
@[simp] theorem an_law42_awake_cond : an_law42_awake.cond = [] := rfl
@[simp] theorem an_law42_awake_rows : an_law42_awake.rows = [] := rfl
@[simp] theorem an_law42_awake_loops : an_law42_awake.loops = [] := rfl
@[simp] theorem an_law42_awake_ecalls : an_law42_awake.ecalls = [] := rfl
@[simp] theorem an_law42_awake_crows : an_law42_awake.crows = [(39, 0, 51, 2)] := rfl
@[simp] theorem an_law42_awake_tails : an_law42_awake.tails = [] := rfl
@[simp] noncomputable def cl_law42_awake : List (Nat × (List D → Option D)) := [(7, F_law42_of), (10, WF_law42_sample), (11, F_law42_log), (12, F_feature_Get), (13, F_law42_get), (14, F_feature_Names)]
@[simp] noncomputable def ce_law42_awake : List (Nat × (List (Nat × O) → List D → Option (D × List (Nat × O)))) := []
noncomputable def c_law42_awake : CT := ⟨callOf (cl_law42_awake ), callOfE ce_law42_awake, gl⟩
@[simp] theorem c_law42_awake_p (f : FuncId) (ds : List D) : c_law42_awake.p f ds = callOf (cl_law42_awake ) f ds := Eq.trans rfl rfl
@[simp] theorem c_law42_awake_e (f : FuncId) (hs : List (Nat × O)) (ds : List D) : c_law42_awake.e f hs ds = callOfE ce_law42_awake f hs ds := Eq.trans rfl rfl
@[simp] theorem c_law42_awake_g (g : Nat) : c_law42_awake.g g = gl g := Eq.trans rfl rfl
noncomputable def L_law42_awake (i n : Nat) (s : St) : Option (E × St) := atN Tryz.prog c_law42_awake an_law42_awake 86 (bodyOf Tryz.f5) i n s
noncomputable def H_law42_awake (n i : Nat) (s : St) : Option (E × St) := atH Tryz.prog c_law42_awake an_law42_awake 86 (bodyOf Tryz.f5) n i s
@[simp] theorem H_law42_awake_eq (n i : Nat) (s : St) : H_law42_awake n i s = L_law42_awake i n (headOf (an_law42_awake.loops.lookup i) s) := rfl
noncomputable def R_law42_awake (i : Nat) (s : St) : Option (E × St) := stepL Tryz.prog c_law42_awake an_law42_awake 86 (bodyOf Tryz.f5) i s
theorem lok_law42_awake : okLoops (bodyOf Tryz.f5) = true := by kernel_rfl
noncomputable def F_law42_awake (ds : List D) : Option D := runF Tryz.prog c_law42_awake an_law42_awake 86 (bodyOf Tryz.f5) [.tmp 0] ds
theorem F_law42_awake_eq (ds : List D) : F_law42_awake ds = runG Tryz.prog c_law42_awake (H_law42_awake bigL) an_law42_awake 86 (bodyOf Tryz.f5) [.tmp 0] ds := runG_eq lok_law42_awake _ ds
theorem C_law42_awake (ds : List D) (r : D) (h : F_law42_awake ds = some r) : Contract Tryz.prog gl 5 ds r := contract_of mix Tryz.func5 rfl (by kernel_rfl) (by kernel_rfl) (by decide) (call := c_law42_awake) ⟨callOf_ok cl_law42_awake ⟨C_law42_of, WC_law42_sample, C_law42_log, C_feature_Get, C_law42_get, C_feature_Names, trivial⟩, callOfE_ok ce_law42_awake trivial⟩ h
-- sawmill/sawmillref02.digit: loops []; state: params 0..0, then [2]
attribute [simp] Tryz.f82
noncomputable def an_ref02_digit : Ann := ⟨[2], [], [], [], [], some [2], [], [], [(39, 0, 51, 2)], []⟩
@[simp] theorem an_ref02_digit_draws : an_ref02_digit.draws = [] := rfl
@[simp] theorem an_ref02_digit_exits : an_ref02_digit.exits = [] := rfl
@[simp] theorem an_ref02_digit_rets : an_ref02_digit.rets = some [2] := rfl
@[simp] theorem an_ref02_digit_keep : an_ref02_digit.keep = [2] := rfl
@[simp] theorem an_ref02_digit_cond : an_ref02_digit.cond = [] := rfl
@[simp] theorem an_ref02_digit_rows : an_ref02_digit.rows = [] := rfl
@[simp] theorem an_ref02_digit_loops : an_ref02_digit.loops = [] := rfl
@[simp] theorem an_ref02_digit_ecalls : an_ref02_digit.ecalls = [] := rfl
@[simp] theorem an_ref02_digit_crows : an_ref02_digit.crows = [(39, 0, 51, 2)] := rfl
@[simp] theorem an_ref02_digit_tails : an_ref02_digit.tails = [] := rfl
@[simp] noncomputable def cl_ref02_digit : List (Nat × (List D → Option D)) := []
@[simp] noncomputable def ce_ref02_digit : List (Nat × (List (Nat × O) → List D → Option (D × List (Nat × O)))) := []
noncomputable def c_ref02_digit : CT := ⟨callOf (cl_ref02_digit ), callOfE ce_ref02_digit, gl⟩
@[simp] theorem c_ref02_digit_p (f : FuncId) (ds : List D) : c_ref02_digit.p f ds = callOf (cl_ref02_digit ) f ds := Eq.trans rfl rfl
@[simp] theorem c_ref02_digit_e (f : FuncId) (hs : List (Nat × O)) (ds : List D) : c_ref02_digit.e f hs ds = callOfE ce_ref02_digit f hs ds := Eq.trans rfl rfl
@[simp] theorem c_ref02_digit_g (g : Nat) : c_ref02_digit.g g = gl g := Eq.trans rfl rfl
noncomputable def L_ref02_digit (i n : Nat) (s : St) : Option (E × St) := atN Tryz.prog c_ref02_digit an_ref02_digit 9 (bodyOf Tryz.f82) i n s
noncomputable def H_ref02_digit (n i : Nat) (s : St) : Option (E × St) := atH Tryz.prog c_ref02_digit an_ref02_digit 9 (bodyOf Tryz.f82) n i s
@[simp] theorem H_ref02_digit_eq (n i : Nat) (s : St) : H_ref02_digit n i s = L_ref02_digit i n (headOf (an_ref02_digit.loops.lookup i) s) := rfl
noncomputable def R_ref02_digit (i : Nat) (s : St) : Option (E × St) := stepL Tryz.prog c_ref02_digit an_ref02_digit 9 (bodyOf Tryz.f82) i s
theorem lok_ref02_digit : okLoops (bodyOf Tryz.f82) = true := by kernel_rfl
noncomputable def F_ref02_digit (ds : List D) : Option D := runF Tryz.prog c_ref02_digit an_ref02_digit 9 (bodyOf Tryz.f82) [.tmp 2] ds
theorem F_ref02_digit_eq (ds : List D) : F_ref02_digit ds = runG Tryz.prog c_ref02_digit (H_ref02_digit bigL) an_ref02_digit 9 (bodyOf Tryz.f82) [.tmp 2] ds := runG_eq lok_ref02_digit _ ds
theorem C_ref02_digit (ds : List D) (r : D) (h : F_ref02_digit ds = some r) : Contract Tryz.prog gl 82 ds r := contract_of mix Tryz.func82 rfl (by kernel_rfl) (by kernel_rfl) (by decide) (call := c_ref02_digit) ⟨callOf_ok cl_ref02_digit trivial, callOfE_ok ce_ref02_digit trivial⟩ h
-- sawmill/sawmillref02.IsName: loops [4]; state: params 0..0, then [2, 3, 4]
attribute [simp] Tryz.f44
noncomputable def an_ref02_IsName : Ann := ⟨[0, 2, 3, 4], [12, 16, 47], [], [(4, [0, 3])], [(0, []), (1, [0, 3])], some [2], [], [], [(39, 0, 51, 2)], []⟩
@[simp] theorem an_ref02_IsName_draws : an_ref02_IsName.draws = [] := rfl
@[simp] theorem an_ref02_IsName_exits : an_ref02_IsName.exits = [(0, []), (1, [0, 3])] := rfl
@[simp] theorem an_ref02_IsName_rets : an_ref02_IsName.rets = some [2] := rfl
@[simp] theorem an_ref02_IsName_keep : an_ref02_IsName.keep = [0, 2, 3, 4] := rfl
@[simp] theorem an_ref02_IsName_cond : an_ref02_IsName.cond = [12, 16, 47] := rfl
@[simp] theorem an_ref02_IsName_rows : an_ref02_IsName.rows = [] := rfl
@[simp] theorem an_ref02_IsName_loops : an_ref02_IsName.loops = [(4, [0, 3])] := rfl
@[simp] theorem an_ref02_IsName_ecalls : an_ref02_IsName.ecalls = [] := rfl
@[simp] theorem an_ref02_IsName_crows : an_ref02_IsName.crows = [(39, 0, 51, 2)] := rfl
@[simp] theorem an_ref02_IsName_tails : an_ref02_IsName.tails = [] := rfl
@[simp] noncomputable def cl_ref02_IsName : List (Nat × (List D → Option D)) := [(82, F_ref02_digit)]
@[simp] noncomputable def ce_ref02_IsName : List (Nat × (List (Nat × O) → List D → Option (D × List (Nat × O)))) := []
noncomputable def c_ref02_IsName : CT := ⟨callOf (cl_ref02_IsName ), callOfE ce_ref02_IsName, gl⟩
@[simp] theorem c_ref02_IsName_p (f : FuncId) (ds : List D) : c_ref02_IsName.p f ds = callOf (cl_ref02_IsName ) f ds := Eq.trans rfl rfl
@[simp] theorem c_ref02_IsName_e (f : FuncId) (hs : List (Nat × O)) (ds : List D) : c_ref02_IsName.e f hs ds = callOfE ce_ref02_IsName f hs ds := Eq.trans rfl rfl
@[simp] theorem c_ref02_IsName_g (g : Nat) : c_ref02_IsName.g g = gl g := Eq.trans rfl rfl
noncomputable def L_ref02_IsName (i n : Nat) (s : St) : Option (E × St) := atN Tryz.prog c_ref02_IsName an_ref02_IsName 48 (bodyOf Tryz.f44) i n s
noncomputable def H_ref02_IsName (n i : Nat) (s : St) : Option (E × St) := atH Tryz.prog c_ref02_IsName an_ref02_IsName 48 (bodyOf Tryz.f44) n i s
@[simp] theorem H_ref02_IsName_eq (n i : Nat) (s : St) : H_ref02_IsName n i s = L_ref02_IsName i n (headOf (an_ref02_IsName.loops.lookup i) s) := rfl
noncomputable def R_ref02_IsName (i : Nat) (s : St) : Option (E × St) := stepL Tryz.prog c_ref02_IsName an_ref02_IsName 48 (bodyOf Tryz.f44) i s
theorem lok_ref02_IsName : okLoops (bodyOf Tryz.f44) = true := by kernel_rfl
theorem L_ref02_IsName_zero (i : Nat) (s : St) : L_ref02_IsName i 0 s = none := rfl
theorem L_ref02_IsName_succ (i n : Nat) (s : St) : L_ref02_IsName i (n + 1) s = andThen (R_ref02_IsName i s) (H_ref02_IsName n i) := atN_succ lok_ref02_IsName i n s
theorem R_ref02_IsName_eq (i : Nat) (s : St) : R_ref02_IsName i s = runS Tryz.prog c_ref02_IsName (H_ref02_IsName bigL) an_ref02_IsName 48 (loopAt (bodyOf Tryz.f44) i) s := rfl
noncomputable def F_ref02_IsName (ds : List D) : Option D := runF Tryz.prog c_ref02_IsName an_ref02_IsName 48 (bodyOf Tryz.f44) [.tmp 2] ds
theorem F_ref02_IsName_eq (ds : List D) : F_ref02_IsName ds = runG Tryz.prog c_ref02_IsName (H_ref02_IsName bigL) an_ref02_IsName 48 (bodyOf Tryz.f44) [.tmp 2] ds := runG_eq lok_ref02_IsName _ ds
theorem C_ref02_IsName (ds : List D) (r : D) (h : F_ref02_IsName ds = some r) : Contract Tryz.prog gl 44 ds r := contract_of mix Tryz.func44 rfl (by kernel_rfl) (by kernel_rfl) (by decide) (call := c_ref02_IsName) ⟨callOf_ok cl_ref02_IsName ⟨C_ref02_digit, trivial⟩, callOfE_ok ce_ref02_IsName trivial⟩ h
end Go.Proofs.YtjhlidaikegelaaGreat
