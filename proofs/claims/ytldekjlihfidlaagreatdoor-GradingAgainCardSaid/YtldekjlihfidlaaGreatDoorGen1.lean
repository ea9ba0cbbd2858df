/-
  Printed by gen.py for this seat: facts about the types that the laws reach; for each function its annotation (what is kept behind a region, which rows are a variable's own, what is alive at the head of a loop), its abstract run, and that the run is its contract.
-/
import Derived.Test.YtldekjlihfidlaaGreatDoorAbs2
import Derived.Test.YtldekjlihfidlaaGreatDoorRows
import Derived.Test.YtldekjlihfidlaaGreatDoorLibG
namespace Go.Proofs.YtldekjlihfidlaaGreatDoor
open Go Go.Abs
set_option maxRecDepth 100000
set_option linter.unusedSimpArgs false
set_option linter.unusedVariables false
noncomputable section
abbrev PL := List (Nat × (List D → Option D))
abbrev EL := List (Nat × (List (Nat × O) → List D → Option (D × List (Nat × O))))
abbrev OS := Option (E × St)
@[simp] def noE : EL := []
theorem mix : Tryz.prog.follows .mixedOrders = true := by kernel_rfl
theorem laid : laidOutB Tryz.prog = true := by kernel_rfl
attribute [simp] Tryz.underlying0
@[simp] theorem sz0 : szT Tryz.prog 0 = some 1 := by kernel_rfl
@[simp] theorem co0 : Tryz.prog.cellsOf 0 = 1 := by kernel_rfl
@[simp] theorem ag0 : aggT Tryz.prog 0 = some false := by kernel_rfl
attribute [simp] Tryz.underlying1
@[simp] theorem sz1 : szT Tryz.prog 1 = some 1 := by kernel_rfl
@[simp] theorem co1 : Tryz.prog.cellsOf 1 = 1 := by kernel_rfl
@[simp] theorem ag1 : aggT Tryz.prog 1 = some false := by kernel_rfl
@[simp] theorem zr1 : zeroD Tryz.prog 1 = some [.x .nilFunc] := by kernel_rfl
attribute [simp] Tryz.underlying2
@[simp] theorem sz2 : szT Tryz.prog 2 = some 1 := by kernel_rfl
@[simp] theorem co2 : Tryz.prog.cellsOf 2 = 1 := by kernel_rfl
@[simp] theorem ag2 : aggT Tryz.prog 2 = some false := by kernel_rfl
@[simp] theorem zr2 : zeroD Tryz.prog 2 = some [.x (.int .i64 0)] := by kernel_rfl
attribute [simp] Tryz.underlying3
@[simp] theorem sz3 : szT Tryz.prog 3 = some 1 := by kernel_rfl
@[simp] theorem co3 : Tryz.prog.cellsOf 3 = 1 := by kernel_rfl
@[simp] theorem ag3 : aggT Tryz.prog 3 = some false := by kernel_rfl
@[simp] theorem zr3 : zeroD Tryz.prog 3 = some [.x (.int .i64 0)] := by kernel_rfl
attribute [simp] Tryz.underlying4
@[simp] theorem sz4 : szT Tryz.prog 4 = some 1 := by kernel_rfl
@[simp] theorem co4 : Tryz.prog.cellsOf 4 = 1 := by kernel_rfl
@[simp] theorem ag4 : aggT Tryz.prog 4 = some false := by kernel_rfl
@[simp] theorem zr4 : zeroD Tryz.prog 4 = some [.x (.bool false)] := by kernel_rfl
attribute [simp] Tryz.underlying5
@[simp] theorem sz5 : szT Tryz.prog 5 = some 1 := by kernel_rfl
@[simp] theorem co5 : Tryz.prog.cellsOf 5 = 1 := by kernel_rfl
@[simp] theorem ag5 : aggT Tryz.prog 5 = some false := by kernel_rfl
@[simp] theorem zr5 : zeroD Tryz.prog 5 = some [.x (.int .u8 0)] := by kernel_rfl
attribute [simp] Tryz.underlying8
@[simp] theorem sz8 : szT Tryz.prog 8 = some 4 := by kernel_rfl
@[simp] theorem co8 : Tryz.prog.cellsOf 8 = 4 := by kernel_rfl
@[simp] theorem ag8 : aggT Tryz.prog 8 = some true := by kernel_rfl
@[simp] theorem zr8 : zeroD Tryz.prog 8 = some [.x (.int .i64 0), .x (.int .i64 0), .x (.bool false), .x (.int .u8 0)] := by kernel_rfl
@[simp] theorem bt8 : buildT Tryz.prog 8 = some ([(0, 1), (1, 1), (2, 1), (3, 1)], [.x (.int .i64 0), .x (.int .i64 0), .x (.bool false), .x (.int .u8 0)]) := by kernel_rfl
@[simp] theorem st8 : Tryz.prog.stoodInHeld 8 = false := by kernel_rfl
@[simp] theorem eg8 : Tryz.prog.eqGuardType Tryz.prog.depth 8 = false := by kernel_rfl
attribute [simp] Tryz.underlying9
@[simp] theorem sz9 : szT Tryz.prog 9 = some 1 := by kernel_rfl
@[simp] theorem co9 : Tryz.prog.cellsOf 9 = 1 := by kernel_rfl
@[simp] theorem ag9 : aggT Tryz.prog 9 = some false := by kernel_rfl
@[simp] theorem zr9 : zeroD Tryz.prog 9 = some [.x (.string ByteArray.empty)] := by kernel_rfl
attribute [simp] Tryz.underlying10
@[simp] theorem sz10 : szT Tryz.prog 10 = some 1 := by kernel_rfl
@[simp] theorem co10 : Tryz.prog.cellsOf 10 = 1 := by kernel_rfl
@[simp] theorem ag10 : aggT Tryz.prog 10 = some false := by kernel_rfl
@[simp] theorem zr10 : zeroD Tryz.prog 10 = some [.x (.string ByteArray.empty)] := by kernel_rfl
attribute [simp] Tryz.underlying11
@[simp] theorem sz11 : szT Tryz.prog 11 = some 1 := by kernel_rfl
@[simp] theorem co11 : Tryz.prog.cellsOf 11 = 1 := by kernel_rfl
@[simp] theorem ag11 : aggT Tryz.prog 11 = some false := by kernel_rfl
@[simp] theorem zr11 : zeroD Tryz.prog 11 = some [.x (.string ByteArray.empty)] := by kernel_rfl
attribute [simp] Tryz.underlying12
@[simp] theorem sz12 : szT Tryz.prog 12 = some 1 := by kernel_rfl
@[simp] theorem co12 : Tryz.prog.cellsOf 12 = 1 := by kernel_rfl
@[simp] theorem ag12 : aggT Tryz.prog 12 = some false := by kernel_rfl
@[simp] theorem zr12 : zeroD Tryz.prog 12 = some [.x (.int .u64 0)] := by kernel_rfl
attribute [simp] Tryz.underlying23
@[simp] theorem sz23 : szT Tryz.prog 23 = some 2 := by kernel_rfl
@[simp] theorem co23 : Tryz.prog.cellsOf 23 = 2 := by kernel_rfl
@[simp] theorem ag23 : aggT Tryz.prog 23 = some true := by kernel_rfl
@[simp] theorem zr23 : zeroD Tryz.prog 23 = some [.x (.int .i64 0), .x (.int .i64 0)] := by kernel_rfl
@[simp] theorem bt23 : buildT Tryz.prog 23 = some ([(0, 1), (1, 1)], [.x (.int .i64 0), .x (.int .i64 0)]) := by kernel_rfl
@[simp] theorem st23 : Tryz.prog.stoodInHeld 23 = false := by kernel_rfl
@[simp] theorem eg23 : Tryz.prog.eqGuardType Tryz.prog.depth 23 = false := by kernel_rfl
attribute [simp] Tryz.underlying25
@[simp] theorem sz25 : szT Tryz.prog 25 = some 6 := by kernel_rfl
@[simp] theorem co25 : Tryz.prog.cellsOf 25 = 6 := by kernel_rfl
@[simp] theorem ag25 : aggT Tryz.prog 25 = some true := by kernel_rfl
@[simp] theorem zr25 : zeroD Tryz.prog 25 = some [.x (.int .i64 0), .x (.int .i64 0), .x (.int .i64 0), .x (.int .i64 0), .x (.int .i64 0), .x (.int .i64 0)] := by kernel_rfl
@[simp] theorem bt25 : buildT Tryz.prog 25 = some ([(0, 2), (2, 2), (4, 2)], [.x (.int .i64 0), .x (.int .i64 0), .x (.int .i64 0), .x (.int .i64 0), .x (.int .i64 0), .x (.int .i64 0)]) := by kernel_rfl
@[simp] theorem st25 : Tryz.prog.stoodInHeld 25 = false := by kernel_rfl
@[simp] theorem eg25 : Tryz.prog.eqGuardType Tryz.prog.depth 25 = false := by kernel_rfl
attribute [simp] Tryz.underlying26
@[simp] theorem sz26 : szT Tryz.prog 26 = some 1 := by kernel_rfl
@[simp] theorem co26 : Tryz.prog.cellsOf 26 = 1 := by kernel_rfl
@[simp] theorem ag26 : aggT Tryz.prog 26 = some false := by kernel_rfl
@[simp] theorem zr26 : zeroD Tryz.prog 26 = some [.emp] := by kernel_rfl
@[simp] theorem mk26 : mkT Tryz.prog 26 = some (82, 7, 56, [.x (.int .i64 0), .x (.int .i64 0), .x (.int .i64 0), .x (.int .i64 0), .x (.int .i64 0), .x (.int .i64 0), .x (.int .i64 0)]) := by kernel_rfl
@[simp] theorem ap26 : appT Tryz.prog 26 = some (82, 7, 56) := by kernel_rfl
attribute [simp] Tryz.underlying28
@[simp] theorem sz28 : szT Tryz.prog 28 = some 3 := by kernel_rfl
@[simp] theorem co28 : Tryz.prog.cellsOf 28 = 3 := by kernel_rfl
@[simp] theorem ag28 : aggT Tryz.prog 28 = some true := by kernel_rfl
@[simp] theorem zr28 : zeroD Tryz.prog 28 = some [.x (.int .i64 0), .x (.int .i64 0), .x (.int .i64 0)] := by kernel_rfl
@[simp] theorem bt28 : buildT Tryz.prog 28 = some ([(0, 1), (1, 1), (2, 1)], [.x (.int .i64 0), .x (.int .i64 0), .x (.int .i64 0)]) := by kernel_rfl
@[simp] theorem st28 : Tryz.prog.stoodInHeld 28 = false := by kernel_rfl
@[simp] theorem eg28 : Tryz.prog.eqGuardType Tryz.prog.depth 28 = false := by kernel_rfl
attribute [simp] Tryz.underlying30
@[simp] theorem sz30 : szT Tryz.prog 30 = some 18 := by kernel_rfl
@[simp] theorem co30 : Tryz.prog.cellsOf 30 = 18 := by kernel_rfl
@[simp] theorem ag30 : aggT Tryz.prog 30 = some true := by kernel_rfl
@[simp] theorem zr30 : zeroD Tryz.prog 30 = some [.x (.string ByteArray.empty), .x (.string ByteArray.empty), .x (.string ByteArray.empty), .x (.int .i64 0), .x (.int .i64 0), .x (.int .i64 0), .x (.int .i64 0), .x (.int .i64 0), .x (.int .i64 0), .x (.int .i64 0), .x (.int .i64 0), .emp, .x (.int .i64 0), .x (.int .i64 0), .x (.int .i64 0), .x (.int .i64 0), .x (.bool false), .x (.int .i64 0)] := by kernel_rfl
@[simp] theorem bt30 : buildT Tryz.prog 30 = some ([(0, 1), (1, 1), (2, 1), (3, 1), (4, 6), (10, 1), (11, 1), (12, 1), (13, 3), (16, 1), (17, 1)], [.x (.string ByteArray.empty), .x (.string ByteArray.empty), .x (.string ByteArray.empty), .x (.int .i64 0), .x (.int .i64 0), .x (.int .i64 0), .x (.int .i64 0), .x (.int .i64 0), .x (.int .i64 0), .x (.int .i64 0), .x (.int .i64 0), .emp, .x (.int .i64 0), .x (.int .i64 0), .x (.int .i64 0), .x (.int .i64 0), .x (.bool false), .x (.int .i64 0)]) := by kernel_rfl
@[simp] theorem st30 : Tryz.prog.stoodInHeld 30 = false := by kernel_rfl
@[simp] theorem eg30 : Tryz.prog.eqGuardType Tryz.prog.depth 30 = false := by kernel_rfl
attribute [simp] Tryz.underlying31
@[simp] theorem sz31 : szT Tryz.prog 31 = some 1 := by kernel_rfl
@[simp] theorem co31 : Tryz.prog.cellsOf 31 = 1 := by kernel_rfl
@[simp] theorem ag31 : aggT Tryz.prog 31 = some false := by kernel_rfl
@[simp] theorem zr31 : zeroD Tryz.prog 31 = some [.emp] := by kernel_rfl
@[simp] theorem mk31 : mkT Tryz.prog 31 = some (57, 7, 96, [.x (.string ByteArray.empty), .x (.int .i64 0), .x (.int .i64 0), .x (.int .i64 0), .x (.int .i64 0), .emp, .emp]) := by kernel_rfl
@[simp] theorem ap31 : appT Tryz.prog 31 = some (57, 7, 96) := by kernel_rfl
attribute [simp] Tryz.underlying33
@[simp] theorem sz33 : szT Tryz.prog 33 = some 13 := by kernel_rfl
@[simp] theorem co33 : Tryz.prog.cellsOf 33 = 13 := by kernel_rfl
@[simp] theorem ag33 : aggT Tryz.prog 33 = some true := by kernel_rfl
@[simp] theorem zr33 : zeroD Tryz.prog 33 = some [.x (.string ByteArray.empty), .x (.int .i64 0), .x (.int .i64 0), .x (.int .i64 0), .x (.int .i64 0), .x (.int .i64 0), .x (.int .i64 0), .x (.int .i64 0), .x (.int .i64 0), .x (.int .i64 0), .x (.int .i64 0), .x (.int .i64 0), .x (.int .i64 0)] := by kernel_rfl
@[simp] theorem bt33 : buildT Tryz.prog 33 = some ([(0, 1), (1, 1), (2, 1), (3, 1), (4, 1), (5, 1), (6, 1), (7, 1), (8, 1), (9, 1), (10, 1), (11, 1), (12, 1)], [.x (.string ByteArray.empty), .x (.int .i64 0), .x (.int .i64 0), .x (.int .i64 0), .x (.int .i64 0), .x (.int .i64 0), .x (.int .i64 0), .x (.int .i64 0), .x (.int .i64 0), .x (.int .i64 0), .x (.int .i64 0), .x (.int .i64 0), .x (.int .i64 0)]) := by kernel_rfl
@[simp] theorem st33 : Tryz.prog.stoodInHeld 33 = false := by kernel_rfl
@[simp] theorem eg33 : Tryz.prog.eqGuardType Tryz.prog.depth 33 = false := by kernel_rfl
attribute [simp] Tryz.underlying34
@[simp] theorem sz34 : szT Tryz.prog 34 = some 1 := by kernel_rfl
@[simp] theorem co34 : Tryz.prog.cellsOf 34 = 1 := by kernel_rfl
@[simp] theorem ag34 : aggT Tryz.prog 34 = some false := by kernel_rfl
@[simp] theorem zr34 : zeroD Tryz.prog 34 = some [.emp] := by kernel_rfl
@[simp] theorem mk34 : mkT Tryz.prog 34 = some (48, 5, 64, [.x (.int .i64 0), .x (.int .i64 0), .x (.int .i64 0), .x (.string ByteArray.empty), .emp]) := by kernel_rfl
@[simp] theorem ap34 : appT Tryz.prog 34 = some (48, 5, 64) := by kernel_rfl
attribute [simp] Tryz.underlying36
@[simp] theorem sz36 : szT Tryz.prog 36 = some 33 := by kernel_rfl
@[simp] theorem co36 : Tryz.prog.cellsOf 36 = 33 := by kernel_rfl
@[simp] theorem ag36 : aggT Tryz.prog 36 = some true := by kernel_rfl
@[simp] theorem zr36 : zeroD Tryz.prog 36 = some [.x (.string ByteArray.empty), .x (.string ByteArray.empty), .x (.string ByteArray.empty), .x (.int .i64 0), .x (.int .i64 0), .x (.int .i64 0), .x (.int .i64 0), .x (.int .i64 0), .x (.int .i64 0), .x (.int .i64 0), .x (.int .i64 0), .emp, .x (.int .i64 0), .x (.int .i64 0), .x (.int .i64 0), .x (.int .i64 0), .x (.bool false), .x (.int .i64 0), .emp, .x (.string ByteArray.empty), .x (.int .i64 0), .x (.int .i64 0), .x (.int .i64 0), .x (.int .i64 0), .x (.int .i64 0), .x (.int .i64 0), .x (.int .i64 0), .x (.int .i64 0), .x (.int .i64 0), .x (.int .i64 0), .x (.int .i64 0), .x (.int .i64 0), .emp] := by kernel_rfl
@[simp] theorem bt36 : buildT Tryz.prog 36 = some ([(0, 18), (18, 1), (19, 13), (32, 1)], [.x (.string ByteArray.empty), .x (.string ByteArray.empty), .x (.string ByteArray.empty), .x (.int .i64 0), .x (.int .i64 0), .x (.int .i64 0), .x (.int .i64 0), .x (.int .i64 0), .x (.int .i64 0), .x (.int .i64 0), .x (.int .i64 0), .emp, .x (.int .i64 0), .x (.int .i64 0), .x (.int .i64 0), .x (.int .i64 0), .x (.bool false), .x (.int .i64 0), .emp, .x (.string ByteArray.empty), .x (.int .i64 0), .x (.int .i64 0), .x (.int .i64 0), .x (.int .i64 0), .x (.int .i64 0), .x (.int .i64 0), .x (.int .i64 0), .x (.int .i64 0), .x (.int .i64 0), .x (.int .i64 0), .x (.int .i64 0), .x (.int .i64 0), .emp]) := by kernel_rfl
@[simp] theorem st36 : Tryz.prog.stoodInHeld 36 = false := by kernel_rfl
@[simp] theorem eg36 : Tryz.prog.eqGuardType Tryz.prog.depth 36 = false := by kernel_rfl
attribute [simp] Tryz.underlying39
@[simp] theorem sz39 : szT Tryz.prog 39 = some 1 := by kernel_rfl
@[simp] theorem co39 : Tryz.prog.cellsOf 39 = 1 := by kernel_rfl
@[simp] theorem ag39 : aggT Tryz.prog 39 = some false := by kernel_rfl
@[simp] theorem zr39 : zeroD Tryz.prog 39 = some [.x (.int .i64 0)] := by kernel_rfl
attribute [simp] Tryz.underlying40
@[simp] theorem sz40 : szT Tryz.prog 40 = some 1 := by kernel_rfl
@[simp] theorem co40 : Tryz.prog.cellsOf 40 = 1 := by kernel_rfl
@[simp] theorem ag40 : aggT Tryz.prog 40 = some false := by kernel_rfl
attribute [simp] Tryz.underlying42
@[simp] theorem sz42 : szT Tryz.prog 42 = some 1 := by kernel_rfl
@[simp] theorem co42 : Tryz.prog.cellsOf 42 = 1 := by kernel_rfl
@[simp] theorem ag42 : aggT Tryz.prog 42 = some false := by kernel_rfl
attribute [simp] Tryz.underlying44
@[simp] theorem sz44 : szT Tryz.prog 44 = some 1 := by kernel_rfl
@[simp] theorem co44 : Tryz.prog.cellsOf 44 = 1 := by kernel_rfl
@[simp] theorem ag44 : aggT Tryz.prog 44 = some false := by kernel_rfl
@[simp] theorem zr44 : zeroD Tryz.prog 44 = some [.emp] := by kernel_rfl
@[simp] theorem mk44 : mkT Tryz.prog 44 = some (46, 4, 56, [.x (.int .i64 0), .x (.int .i64 0), .x (.string ByteArray.empty), .emp]) := by kernel_rfl
@[simp] theorem ap44 : appT Tryz.prog 44 = some (46, 4, 56) := by kernel_rfl
attribute [simp] Tryz.underlying46
@[simp] theorem sz46 : szT Tryz.prog 46 = some 4 := by kernel_rfl
@[simp] theorem co46 : Tryz.prog.cellsOf 46 = 4 := by kernel_rfl
@[simp] theorem ag46 : aggT Tryz.prog 46 = some true := by kernel_rfl
@[simp] theorem zr46 : zeroD Tryz.prog 46 = some [.x (.int .i64 0), .x (.int .i64 0), .x (.string ByteArray.empty), .emp] := by kernel_rfl
@[simp] theorem bt46 : buildT Tryz.prog 46 = some ([(0, 1), (1, 1), (2, 1), (3, 1)], [.x (.int .i64 0), .x (.int .i64 0), .x (.string ByteArray.empty), .emp]) := by kernel_rfl
@[simp] theorem st46 : Tryz.prog.stoodInHeld 46 = false := by kernel_rfl
@[simp] theorem eg46 : Tryz.prog.eqGuardType Tryz.prog.depth 46 = false := by kernel_rfl
attribute [simp] Tryz.underlying48
@[simp] theorem sz48 : szT Tryz.prog 48 = some 5 := by kernel_rfl
@[simp] theorem co48 : Tryz.prog.cellsOf 48 = 5 := by kernel_rfl
@[simp] theorem ag48 : aggT Tryz.prog 48 = some true := by kernel_rfl
@[simp] theorem zr48 : zeroD Tryz.prog 48 = some [.x (.int .i64 0), .x (.int .i64 0), .x (.int .i64 0), .x (.string ByteArray.empty), .emp] := by kernel_rfl
@[simp] theorem bt48 : buildT Tryz.prog 48 = some ([(0, 1), (1, 4)], [.x (.int .i64 0), .x (.int .i64 0), .x (.int .i64 0), .x (.string ByteArray.empty), .emp]) := by kernel_rfl
@[simp] theorem st48 : Tryz.prog.stoodInHeld 48 = false := by kernel_rfl
@[simp] theorem eg48 : Tryz.prog.eqGuardType Tryz.prog.depth 48 = false := by kernel_rfl
attribute [simp] Tryz.underlying50
@[simp] theorem sz50 : szT Tryz.prog 50 = some 1 := by kernel_rfl
@[simp] theorem co50 : Tryz.prog.cellsOf 50 = 1 := by kernel_rfl
@[simp] theorem ag50 : aggT Tryz.prog 50 = some false := by kernel_rfl
@[simp] theorem zr50 : zeroD Tryz.prog 50 = some [.emp] := by kernel_rfl
@[simp] theorem mk50 : mkT Tryz.prog 50 = some (30, 18, 184, [.x (.string ByteArray.empty), .x (.string ByteArray.empty), .x (.string ByteArray.empty), .x (.int .i64 0), .x (.int .i64 0), .x (.int .i64 0), .x (.int .i64 0), .x (.int .i64 0), .x (.int .i64 0), .x (.int .i64 0), .x (.int .i64 0), .emp, .x (.int .i64 0), .x (.int .i64 0), .x (.int .i64 0), .x (.int .i64 0), .x (.bool false), .x (.int .i64 0)]) := by kernel_rfl
@[simp] theorem ap50 : appT Tryz.prog 50 = some (30, 18, 184) := by kernel_rfl
attribute [simp] Tryz.underlying51
@[simp] theorem sz51 : szT Tryz.prog 51 = some 1 := by kernel_rfl
@[simp] theorem co51 : Tryz.prog.cellsOf 51 = 1 := by kernel_rfl
@[simp] theorem ag51 : aggT Tryz.prog 51 = some false := by kernel_rfl
attribute [simp] Tryz.underlying53
@[simp] theorem sz53 : szT Tryz.prog 53 = some 1 := by kernel_rfl
@[simp] theorem co53 : Tryz.prog.cellsOf 53 = 1 := by kernel_rfl
@[simp] theorem ag53 : aggT Tryz.prog 53 = some false := by kernel_rfl
@[simp] theorem zr53 : zeroD Tryz.prog 53 = some [.emp] := by kernel_rfl
@[simp] theorem mk53 : mkT Tryz.prog 53 = some (3, 1, 8, [.x (.int .i64 0)]) := by kernel_rfl
@[simp] theorem ap53 : appT Tryz.prog 53 = some (3, 1, 8) := by kernel_rfl
attribute [simp] Tryz.underlying57
@[simp] theorem sz57 : szT Tryz.prog 57 = some 7 := by kernel_rfl
@[simp] theorem co57 : Tryz.prog.cellsOf 57 = 7 := by kernel_rfl
@[simp] theorem ag57 : aggT Tryz.prog 57 = some true := by kernel_rfl
@[simp] theorem zr57 : zeroD Tryz.prog 57 = some [.x (.string ByteArray.empty), .x (.int .i64 0), .x (.int .i64 0), .x (.int .i64 0), .x (.int .i64 0), .emp, .emp] := by kernel_rfl
@[simp] theorem bt57 : buildT Tryz.prog 57 = some ([(0, 1), (1, 1), (2, 1), (3, 1), (4, 1), (5, 1), (6, 1)], [.x (.string ByteArray.empty), .x (.int .i64 0), .x (.int .i64 0), .x (.int .i64 0), .x (.int .i64 0), .emp, .emp]) := by kernel_rfl
@[simp] theorem st57 : Tryz.prog.stoodInHeld 57 = false := by kernel_rfl
@[simp] theorem eg57 : Tryz.prog.eqGuardType Tryz.prog.depth 57 = false := by kernel_rfl
attribute [simp] Tryz.underlying64
@[simp] theorem sz64 : szT Tryz.prog 64 = some 1 := by kernel_rfl
@[simp] theorem co64 : Tryz.prog.cellsOf 64 = 1 := by kernel_rfl
@[simp] theorem ag64 : aggT Tryz.prog 64 = some false := by kernel_rfl
@[simp] theorem zr64 : zeroD Tryz.prog 64 = some [.emp] := by kernel_rfl
@[simp] theorem mk64 : mkT Tryz.prog 64 = some (92, 2, 24, [.x (.string ByteArray.empty), .x (.int .i64 0)]) := by kernel_rfl
@[simp] theorem ap64 : appT Tryz.prog 64 = some (92, 2, 24) := by kernel_rfl
attribute [simp] Tryz.underlying67
@[simp] theorem sz67 : szT Tryz.prog 67 = some 1 := by kernel_rfl
@[simp] theorem co67 : Tryz.prog.cellsOf 67 = 1 := by kernel_rfl
@[simp] theorem ag67 : aggT Tryz.prog 67 = some false := by kernel_rfl
@[simp] theorem zr67 : zeroD Tryz.prog 67 = some [.x .nilFunc] := by kernel_rfl
attribute [simp] Tryz.underlying68
@[simp] theorem sz68 : szT Tryz.prog 68 = some 1 := by kernel_rfl
@[simp] theorem co68 : Tryz.prog.cellsOf 68 = 1 := by kernel_rfl
@[simp] theorem ag68 : aggT Tryz.prog 68 = some false := by kernel_rfl
@[simp] theorem zr68 : zeroD Tryz.prog 68 = some [.emp] := by kernel_rfl
@[simp] theorem mk68 : mkT Tryz.prog 68 = some (9, 1, 16, [.x (.string ByteArray.empty)]) := by kernel_rfl
@[simp] theorem ap68 : appT Tryz.prog 68 = some (9, 1, 16) := by kernel_rfl
attribute [simp] Tryz.underlying72
@[simp] theorem sz72 : szT Tryz.prog 72 = some 1 := by kernel_rfl
@[simp] theorem co72 : Tryz.prog.cellsOf 72 = 1 := by kernel_rfl
@[simp] theorem ag72 : aggT Tryz.prog 72 = some false := by kernel_rfl
attribute [simp] Tryz.underlying82
@[simp] theorem sz82 : szT Tryz.prog 82 = some 7 := by kernel_rfl
@[simp] theorem co82 : Tryz.prog.cellsOf 82 = 7 := by kernel_rfl
@[simp] theorem ag82 : aggT Tryz.prog 82 = some true := by kernel_rfl
@[simp] theorem zr82 : zeroD Tryz.prog 82 = some [.x (.int .i64 0), .x (.int .i64 0), .x (.int .i64 0), .x (.int .i64 0), .x (.int .i64 0), .x (.int .i64 0), .x (.int .i64 0)] := by kernel_rfl
@[simp] theorem bt82 : buildT Tryz.prog 82 = some ([(0, 1), (1, 6)], [.x (.int .i64 0), .x (.int .i64 0), .x (.int .i64 0), .x (.int .i64 0), .x (.int .i64 0), .x (.int .i64 0), .x (.int .i64 0)]) := by kernel_rfl
@[simp] theorem st82 : Tryz.prog.stoodInHeld 82 = false := by kernel_rfl
@[simp] theorem eg82 : Tryz.prog.eqGuardType Tryz.prog.depth 82 = false := by kernel_rfl
attribute [simp] Tryz.underlying89
@[simp] theorem sz89 : szT Tryz.prog 89 = some 1 := by kernel_rfl
@[simp] theorem co89 : Tryz.prog.cellsOf 89 = 1 := by kernel_rfl
@[simp] theorem ag89 : aggT Tryz.prog 89 = some false := by kernel_rfl
@[simp] theorem zr89 : zeroD Tryz.prog 89 = some [.emp] := by kernel_rfl
@[simp] theorem mk89 : mkT Tryz.prog 89 = some (33, 13, 112, [.x (.string ByteArray.empty), .x (.int .i64 0), .x (.int .i64 0), .x (.int .i64 0), .x (.int .i64 0), .x (.int .i64 0), .x (.int .i64 0), .x (.int .i64 0), .x (.int .i64 0), .x (.int .i64 0), .x (.int .i64 0), .x (.int .i64 0), .x (.int .i64 0)]) := by kernel_rfl
@[simp] theorem ap89 : appT Tryz.prog 89 = some (33, 13, 112) := by kernel_rfl
attribute [simp] Tryz.underlying92
@[simp] theorem sz92 : szT Tryz.prog 92 = some 2 := by kernel_rfl
@[simp] theorem co92 : Tryz.prog.cellsOf 92 = 2 := by kernel_rfl
@[simp] theorem ag92 : aggT Tryz.prog 92 = some true := by kernel_rfl
@[simp] theorem zr92 : zeroD Tryz.prog 92 = some [.x (.string ByteArray.empty), .x (.int .i64 0)] := by kernel_rfl
@[simp] theorem bt92 : buildT Tryz.prog 92 = some ([(0, 1), (1, 1)], [.x (.string ByteArray.empty), .x (.int .i64 0)]) := by kernel_rfl
@[simp] theorem st92 : Tryz.prog.stoodInHeld 92 = false := by kernel_rfl
@[simp] theorem eg92 : Tryz.prog.eqGuardType Tryz.prog.depth 92 = false := by kernel_rfl
attribute [simp] Tryz.underlying93
@[simp] theorem sz93 : szT Tryz.prog 93 = some 1 := by kernel_rfl
@[simp] theorem co93 : Tryz.prog.cellsOf 93 = 1 := by kernel_rfl
@[simp] theorem ag93 : aggT Tryz.prog 93 = some false := by kernel_rfl
@[simp] theorem zr93 : zeroD Tryz.prog 93 = some [.x .nilFunc] := by kernel_rfl
attribute [simp] Tryz.underlying107
@[simp] theorem sz107 : szT Tryz.prog 107 = some 1 := by kernel_rfl
@[simp] theorem co107 : Tryz.prog.cellsOf 107 = 1 := by kernel_rfl
@[simp] theorem ag107 : aggT Tryz.prog 107 = some false := by kernel_rfl
@[simp] theorem zr107 : zeroD Tryz.prog 107 = some [.emp] := by kernel_rfl
@[simp] theorem mk107 : mkT Tryz.prog 107 = some (5, 1, 1, [.x (.int .u8 0)]) := by kernel_rfl
@[simp] theorem ap107 : appT Tryz.prog 107 = some (5, 1, 1) := by kernel_rfl
attribute [simp] Tryz.underlying117
@[simp] theorem sz117 : szT Tryz.prog 117 = some 1 := by kernel_rfl
@[simp] theorem co117 : Tryz.prog.cellsOf 117 = 1 := by kernel_rfl
@[simp] theorem ag117 : aggT Tryz.prog 117 = some false := by kernel_rfl
@[simp] theorem zr117 : zeroD Tryz.prog 117 = some [.x (.int .u64 0)] := by kernel_rfl
attribute [simp] Tryz.underlying125
@[simp] theorem sz125 : szT Tryz.prog 125 = some 1 := by kernel_rfl
@[simp] theorem co125 : Tryz.prog.cellsOf 125 = 1 := by kernel_rfl
@[simp] theorem ag125 : aggT Tryz.prog 125 = some false := by kernel_rfl
attribute [simp] Tryz.underlying127
@[simp] theorem sz127 : szT Tryz.prog 127 = some 2 := by kernel_rfl
@[simp] theorem co127 : Tryz.prog.cellsOf 127 = 2 := by kernel_rfl
@[simp] theorem ag127 : aggT Tryz.prog 127 = some true := by kernel_rfl
@[simp] theorem zr127 : zeroD Tryz.prog 127 = some [.x (.int .i64 0), .x (.int .i64 0)] := by kernel_rfl
@[simp] theorem bt127 : buildT Tryz.prog 127 = some ([(0, 1), (1, 1)], [.x (.int .i64 0), .x (.int .i64 0)]) := by kernel_rfl
@[simp] theorem eg127 : Tryz.prog.eqGuardType Tryz.prog.depth 127 = false := by kernel_rfl
attribute [simp] Tryz.underlying132
@[simp] theorem sz132 : szT Tryz.prog 132 = some 1 := by kernel_rfl
@[simp] theorem co132 : Tryz.prog.cellsOf 132 = 1 := by kernel_rfl
@[simp] theorem ag132 : aggT Tryz.prog 132 = some false := by kernel_rfl
attribute [simp] Tryz.underlying159
@[simp] theorem sz159 : szT Tryz.prog 159 = some 1 := by kernel_rfl
@[simp] theorem co159 : Tryz.prog.cellsOf 159 = 1 := by kernel_rfl
@[simp] theorem ag159 : aggT Tryz.prog 159 = some false := by kernel_rfl
@[simp] theorem zr159 : zeroD Tryz.prog 159 = some [.x (.int .u32 0)] := by kernel_rfl
attribute [simp] Tryz.underlying162
@[simp] theorem sz162 : szT Tryz.prog 162 = some 1 := by kernel_rfl
@[simp] theorem co162 : Tryz.prog.cellsOf 162 = 1 := by kernel_rfl
@[simp] theorem ag162 : aggT Tryz.prog 162 = some false := by kernel_rfl
@[simp] theorem zr162 : zeroD Tryz.prog 162 = some [.x (.pointer none)] := by kernel_rfl
attribute [simp] Tryz.underlying164
@[simp] theorem sz164 : szT Tryz.prog 164 = some 1 := by kernel_rfl
@[simp] theorem co164 : Tryz.prog.cellsOf 164 = 1 := by kernel_rfl
@[simp] theorem ag164 : aggT Tryz.prog 164 = some false := by kernel_rfl
@[simp] theorem zr164 : zeroD Tryz.prog 164 = some [.x .nilFunc] := by kernel_rfl
attribute [simp] Tryz.underlying165
@[simp] theorem sz165 : szT Tryz.prog 165 = some 1 := by kernel_rfl
@[simp] theorem co165 : Tryz.prog.cellsOf 165 = 1 := by kernel_rfl
@[simp] theorem ag165 : aggT Tryz.prog 165 = some false := by kernel_rfl
attribute [simp] Tryz.underlying167
@[simp] theorem sz167 : szT Tryz.prog 167 = some 4 := by kernel_rfl
@[simp] theorem co167 : Tryz.prog.cellsOf 167 = 4 := by kernel_rfl
@[simp] theorem ag167 : aggT Tryz.prog 167 = some true := by kernel_rfl
@[simp] theorem zr167 : zeroD Tryz.prog 167 = some [.x (.int .i64 0), .x (.int .i64 0), .x (.int .i64 0), .x (.int .i64 0)] := by kernel_rfl
@[simp] theorem bt167 : buildT Tryz.prog 167 = some ([(0, 2), (2, 2)], [.x (.int .i64 0), .x (.int .i64 0), .x (.int .i64 0), .x (.int .i64 0)]) := by kernel_rfl
attribute [simp] Tryz.underlying171
@[simp] theorem sz171 : szT Tryz.prog 171 = some 24 := by kernel_rfl
@[simp] theorem co171 : Tryz.prog.cellsOf 171 = 24 := by kernel_rfl
@[simp] theorem ag171 : aggT Tryz.prog 171 = some true := by kernel_rfl
@[simp] theorem zr171 : zeroD Tryz.prog 171 = some [.x (.int .i64 0), .x (.int .i64 0), .x (.int .i64 0), .x (.int .i64 0), .x (.int .i64 0), .x (.int .i64 0), .x (.int .i64 0), .x (.int .i64 0), .x (.int .i64 0), .x (.int .i64 0), .x (.int .i64 0), .x (.int .i64 0), .x (.int .i64 0), .x (.int .i64 0), .x (.int .i64 0), .x (.int .i64 0), .x (.int .i64 0), .x (.int .i64 0), .x (.int .i64 0), .x (.int .i64 0), .x (.int .i64 0), .x (.int .i64 0), .x (.int .i64 0), .x (.int .i64 0)] := by kernel_rfl
@[simp] theorem bt171 : buildT Tryz.prog 171 = some ([(0, 2), (2, 2), (4, 2), (6, 2), (8, 2), (10, 2), (12, 2), (14, 2), (16, 2), (18, 2), (20, 2), (22, 2)], [.x (.int .i64 0), .x (.int .i64 0), .x (.int .i64 0), .x (.int .i64 0), .x (.int .i64 0), .x (.int .i64 0), .x (.int .i64 0), .x (.int .i64 0), .x (.int .i64 0), .x (.int .i64 0), .x (.int .i64 0), .x (.int .i64 0), .x (.int .i64 0), .x (.int .i64 0), .x (.int .i64 0), .x (.int .i64 0), .x (.int .i64 0), .x (.int .i64 0), .x (.int .i64 0), .x (.int .i64 0), .x (.int .i64 0), .x (.int .i64 0), .x (.int .i64 0), .x (.int .i64 0)]) := by kernel_rfl
attribute [simp] Tryz.underlying172
@[simp] theorem sz172 : szT Tryz.prog 172 = some 12 := by kernel_rfl
@[simp] theorem co172 : Tryz.prog.cellsOf 172 = 12 := by kernel_rfl
@[simp] theorem ag172 : aggT Tryz.prog 172 = some true := by kernel_rfl
@[simp] theorem zr172 : zeroD Tryz.prog 172 = some [.x (.int .i64 0), .x (.int .i64 0), .x (.int .i64 0), .x (.int .i64 0), .x (.int .i64 0), .x (.int .i64 0), .x (.int .i64 0), .x (.int .i64 0), .x (.int .i64 0), .x (.int .i64 0), .x (.int .i64 0), .x (.int .i64 0)] := by kernel_rfl
@[simp] theorem bt172 : buildT Tryz.prog 172 = some ([(0, 1), (1, 1), (2, 1), (3, 1), (4, 1), (5, 1), (6, 1), (7, 1), (8, 1), (9, 1), (10, 1), (11, 1)], [.x (.int .i64 0), .x (.int .i64 0), .x (.int .i64 0), .x (.int .i64 0), .x (.int .i64 0), .x (.int .i64 0), .x (.int .i64 0), .x (.int .i64 0), .x (.int .i64 0), .x (.int .i64 0), .x (.int .i64 0), .x (.int .i64 0)]) := by kernel_rfl
@[simp] theorem eg172 : Tryz.prog.eqGuardType Tryz.prog.depth 172 = false := by kernel_rfl
attribute [simp] Tryz.underlying192
@[simp] theorem sz192 : szT Tryz.prog 192 = some 1 := by kernel_rfl
@[simp] theorem co192 : Tryz.prog.cellsOf 192 = 1 := by kernel_rfl
@[simp] theorem ag192 : aggT Tryz.prog 192 = some false := by kernel_rfl
@[simp] theorem zr192 : zeroD Tryz.prog 192 = some [.emp] := by kernel_rfl
@[simp] theorem mk192 : mkT Tryz.prog 192 = some (195, 4, 32, [.x (.int .i64 0), .x (.int .i64 0), .x .nilFunc, .x (.int .i64 0)]) := by kernel_rfl
@[simp] theorem ap192 : appT Tryz.prog 192 = some (195, 4, 32) := by kernel_rfl
attribute [simp] Tryz.underlying195
@[simp] theorem sz195 : szT Tryz.prog 195 = some 4 := by kernel_rfl
@[simp] theorem co195 : Tryz.prog.cellsOf 195 = 4 := by kernel_rfl
@[simp] theorem ag195 : aggT Tryz.prog 195 = some true := by kernel_rfl
@[simp] theorem zr195 : zeroD Tryz.prog 195 = some [.x (.int .i64 0), .x (.int .i64 0), .x .nilFunc, .x (.int .i64 0)] := by kernel_rfl
@[simp] theorem bt195 : buildT Tryz.prog 195 = some ([(0, 1), (1, 1), (2, 1), (3, 1)], [.x (.int .i64 0), .x (.int .i64 0), .x .nilFunc, .x (.int .i64 0)]) := by kernel_rfl
@[simp] theorem st195 : Tryz.prog.stoodInHeld 195 = false := by kernel_rfl
@[simp] theorem eg195 : Tryz.prog.eqGuardType Tryz.prog.depth 195 = false := by kernel_rfl
attribute [simp] Tryz.underlying213
@[simp] theorem sz213 : szT Tryz.prog 213 = some 1 := by kernel_rfl
@[simp] theorem co213 : Tryz.prog.cellsOf 213 = 1 := by kernel_rfl
@[simp] theorem ag213 : aggT Tryz.prog 213 = some false := by kernel_rfl
@[simp] theorem zr213 : zeroD Tryz.prog 213 = some [.x .nilFunc] := by kernel_rfl
attribute [simp] Tryz.f16
def z0a : Ann := ⟨[1, 2, 4, 5, 6], [16], [], [(3, [1, 2, 5, 6])], [(0, [5]), (1, [1, 2, 5, 6])], some [4], [], [], [(64, 0, 92, 2)], []⟩
@[simp] theorem z0a_draws : z0a.draws = [] := rfl
@[simp] theorem z0a_exits : z0a.exits = [(0, [5]), (1, [1, 2, 5, 6])] := rfl
@[simp] theorem z0a_rets : z0a.rets = some [4] := rfl
@[simp] theorem z0a_keep : z0a.keep = [1, 2, 4, 5, 6] := rfl
@[simp] theorem z0a_cond : z0a.cond = [16] := rfl
@[simp] theorem z0a_rows : z0a.rows = [] := rfl
@[simp] theorem z0a_loops : z0a.loops = [(3, [1, 2, 5, 6])] := rfl
@[simp] theorem z0a_ecalls : z0a.ecalls = [] := rfl
@[simp] theorem z0a_crows : z0a.crows = [(64, 0, 92, 2)] := rfl
@[simp] theorem z0a_tails : z0a.tails = [] := rfl
@[simp] def z0b (self : List D → Option D) : PL := [(16, self)]
def z0c (self : List D → Option D) : CT := ⟨callOf (z0b self ), callOfE noE, gl⟩
@[simp] theorem z0c_p (self : List D → Option D) (f : FuncId) (ds : List D) : (z0c self).p f ds = callOf (z0b self ) f ds := Eq.trans rfl rfl
@[simp] theorem z0c_e (self : List D → Option D) (f : FuncId) (hs : List (Nat × O)) (ds : List D) : (z0c self).e f hs ds = callOfE noE f hs ds := Eq.trans rfl rfl
@[simp] theorem z0c_g (self : List D → Option D) (g : Nat) : (z0c self).g g = gl g := Eq.trans rfl rfl
def L_law45_size (self : List D → Option D) (i n : Nat) (s : St) : OS := atN Tryz.prog (z0c self) z0a 31 (bodyOf Tryz.f16) i n s
def z0h (self : List D → Option D) (n i : Nat) (s : St) : OS := atH Tryz.prog (z0c self) z0a 31 (bodyOf Tryz.f16) n i s
@[simp] theorem z0h_eq (self : List D → Option D) (n i : Nat) (s : St) : z0h self n i s = L_law45_size self i n (headOf (z0a.loops.lookup i) s) := rfl
def R_law45_size (self : List D → Option D) (i : Nat) (s : St) : OS := stepL Tryz.prog (z0c self) z0a 31 (bodyOf Tryz.f16) i s
theorem z0k : okLoops (bodyOf Tryz.f16) = true := by kernel_rfl
theorem L_law45_size_zero (self : List D → Option D) (i : Nat) (s : St) : L_law45_size self i 0 s = none := rfl
theorem L_law45_size_succ (self : List D → Option D) (i n : Nat) (s : St) : L_law45_size self i (n + 1) s = andThen (R_law45_size self i s) (z0h self n i) := atN_succ z0k i n s
theorem R_law45_size_eq (self : List D → Option D) (i : Nat) (s : St) : R_law45_size self i s = runS Tryz.prog (z0c self) (z0h self bigL) z0a 31 (loopAt (bodyOf Tryz.f16) i) s := rfl
def FN_law45_size : Nat → List D → Option D
  | 0 => fun _ => none
  | n + 1 => fun ds => runF Tryz.prog (z0c (FN_law45_size n)) z0a 31 (bodyOf Tryz.f16) [.tmp 4] ds
theorem FN_law45_size_eq (n : Nat) (ds : List D) : FN_law45_size (n + 1) ds = runG Tryz.prog (z0c (FN_law45_size n)) (z0h (FN_law45_size n) bigL) z0a 31 (bodyOf Tryz.f16) [.tmp 4] ds := runG_eq z0k _ ds
theorem CN_law45_size : ∀ (n : Nat) (ds : List D) (r : D), FN_law45_size n ds = some r → Contract Tryz.prog gl 16 ds r
  | 0, _, _, h => by cases h
  | n + 1, ds, r, h => by
    have ih := CN_law45_size n
    exact contract_of mix Tryz.func16 rfl (by kernel_rfl) (by kernel_rfl) (by decide) (call := z0c (FN_law45_size n)) ⟨callOf_ok (z0b (FN_law45_size n)) ⟨ih, trivial⟩, callOfE_ok noE trivial⟩ h
def F_law45_size (ds : List D) : Option D := FN_law45_size 1000 ds
theorem C_law45_size (ds : List D) (r : D) (h : F_law45_size ds = some r) : Contract Tryz.prog gl 16 ds r := CN_law45_size 1000 ds r h
attribute [simp] Tryz.f6
def z1a : Ann := ⟨[1, 2, 3, 4, 5], [44, 49, 79, 88], [], [(4, [1, 3]), (10, [1, 4, 5])], [(0, [1]), (1, [1, 3]), (2, [4]), (3, [1, 4, 5])], some [2], [], [], [(64, 0, 92, 2)], []⟩
@[simp] theorem z1a_draws : z1a.draws = [] := rfl
@[simp] theorem z1a_exits : z1a.exits = [(0, [1]), (1, [1, 3]), (2, [4]), (3, [1, 4, 5])] := rfl
@[simp] theorem z1a_rets : z1a.rets = some [2] := rfl
@[simp] theorem z1a_keep : z1a.keep = [1, 2, 3, 4, 5] := rfl
@[simp] theorem z1a_cond : z1a.cond = [44, 49, 79, 88] := rfl
@[simp] theorem z1a_rows : z1a.rows = [] := rfl
@[simp] theorem z1a_loops : z1a.loops = [(4, [1, 3]), (10, [1, 4, 5])] := rfl
@[simp] theorem z1a_ecalls : z1a.ecalls = [] := rfl
@[simp] theorem z1a_crows : z1a.crows = [(64, 0, 92, 2)] := rfl
@[simp] theorem z1a_tails : z1a.tails = [] := rfl
@[simp] def z1b : PL := [(16, F_law45_size)]
def z1c : CT := ⟨callOf (z1b ), callOfE noE, gl⟩
@[simp] theorem z1c_p (f : FuncId) (ds : List D) : z1c.p f ds = callOf (z1b ) f ds := Eq.trans rfl rfl
@[simp] theorem z1c_e (f : FuncId) (hs : List (Nat × O)) (ds : List D) : z1c.e f hs ds = callOfE noE f hs ds := Eq.trans rfl rfl
@[simp] theorem z1c_g (g : Nat) : z1c.g g = gl g := Eq.trans rfl rfl
def L_law45_Small (i n : Nat) (s : St) : OS := atN Tryz.prog z1c z1a 102 (bodyOf Tryz.f6) i n s
def z1h (n i : Nat) (s : St) : OS := atH Tryz.prog z1c z1a 102 (bodyOf Tryz.f6) n i s
@[simp] theorem z1h_eq (n i : Nat) (s : St) : z1h n i s = L_law45_Small i n (headOf (z1a.loops.lookup i) s) := rfl
def R_law45_Small (i : Nat) (s : St) : OS := stepL Tryz.prog z1c z1a 102 (bodyOf Tryz.f6) i s
theorem z1k : okLoops (bodyOf Tryz.f6) = true := by kernel_rfl
theorem L_law45_Small_zero (i : Nat) (s : St) : L_law45_Small i 0 s = none := rfl
theorem L_law45_Small_succ (i n : Nat) (s : St) : L_law45_Small i (n + 1) s = andThen (R_law45_Small i s) (z1h n i) := atN_succ z1k i n s
theorem R_law45_Small_eq (i : Nat) (s : St) : R_law45_Small i s = runS Tryz.prog z1c (z1h bigL) z1a 102 (loopAt (bodyOf Tryz.f6) i) s := rfl
def F_law45_Small (ds : List D) : Option D := runF Tryz.prog z1c z1a 102 (bodyOf Tryz.f6) [.tmp 2] ds
theorem F_law45_Small_eq (ds : List D) : F_law45_Small ds = runG Tryz.prog z1c (z1h bigL) z1a 102 (bodyOf Tryz.f6) [.tmp 2] ds := runG_eq z1k _ ds
theorem C_law45_Small (ds : List D) (r : D) (h : F_law45_Small ds = some r) : Contract Tryz.prog gl 6 ds r := contract_of mix Tryz.func6 rfl (by kernel_rfl) (by kernel_rfl) (by decide) (call := z1c) ⟨callOf_ok z1b ⟨C_law45_size, trivial⟩, callOfE_ok noE trivial⟩ h
attribute [simp] Tryz.f17
def z2a : Ann := ⟨[4, 5, 6], [17], [21], [(3, [0, 4, 5, 6])], [(0, [4, 5]), (1, [0, 4, 5, 6])], some [4], [], [], [(64, 0, 92, 2)], []⟩
@[simp] theorem z2a_draws : z2a.draws = [] := rfl
@[simp] theorem z2a_exits : z2a.exits = [(0, [4, 5]), (1, [0, 4, 5, 6])] := rfl
@[simp] theorem z2a_rets : z2a.rets = some [4] := rfl
@[simp] theorem z2a_keep : z2a.keep = [4, 5, 6] := rfl
@[simp] theorem z2a_cond : z2a.cond = [17] := rfl
@[simp] theorem z2a_rows : z2a.rows = [21] := rfl
@[simp] theorem z2a_loops : z2a.loops = [(3, [0, 4, 5, 6])] := rfl
@[simp] theorem z2a_ecalls : z2a.ecalls = [] := rfl
@[simp] theorem z2a_crows : z2a.crows = [(64, 0, 92, 2)] := rfl
@[simp] theorem z2a_tails : z2a.tails = [] := rfl
@[simp] def z2b : PL := []
def z2c : CT := ⟨callOf (z2b ), callOfE noE, gl⟩
@[simp] theorem z2c_p (f : FuncId) (ds : List D) : z2c.p f ds = callOf (z2b ) f ds := Eq.trans rfl rfl
@[simp] theorem z2c_e (f : FuncId) (hs : List (Nat × O)) (ds : List D) : z2c.e f hs ds = callOfE noE f hs ds := Eq.trans rfl rfl
@[simp] theorem z2c_g (g : Nat) : z2c.g g = gl g := Eq.trans rfl rfl
def L_law45_Sample (i n : Nat) (s : St) : OS := atN Tryz.prog z2c z2a 36 (bodyOf Tryz.f17) i n s
def z2h (n i : Nat) (s : St) : OS := atH Tryz.prog z2c z2a 36 (bodyOf Tryz.f17) n i s
@[simp] theorem z2h_eq (n i : Nat) (s : St) : z2h n i s = L_law45_Sample i n (headOf (z2a.loops.lookup i) s) := rfl
def R_law45_Sample (i : Nat) (s : St) : OS := stepL Tryz.prog z2c z2a 36 (bodyOf Tryz.f17) i s
theorem z2k : okLoops (bodyOf Tryz.f17) = true := by kernel_rfl
theorem L_law45_Sample_zero (i : Nat) (s : St) : L_law45_Sample i 0 s = none := rfl
theorem L_law45_Sample_succ (i n : Nat) (s : St) : L_law45_Sample i (n + 1) s = andThen (R_law45_Sample i s) (z2h n i) := atN_succ z2k i n s
theorem R_law45_Sample_eq (i : Nat) (s : St) : R_law45_Sample i s = runS Tryz.prog z2c (z2h bigL) z2a 36 (loopAt (bodyOf Tryz.f17) i) s := rfl
def F_law45_Sample (ds : List D) : Option D := runF Tryz.prog z2c z2a 36 (bodyOf Tryz.f17) [.cell 4 30] ds
theorem F_law45_Sample_eq (ds : List D) : F_law45_Sample ds = runG Tryz.prog z2c (z2h bigL) z2a 36 (bodyOf Tryz.f17) [.cell 4 30] ds := runG_eq z2k _ ds
theorem C_law45_Sample (ds : List D) (r : D) (h : F_law45_Sample ds = some r) : Contract Tryz.prog gl 17 ds r := contract_of mix Tryz.func17 rfl (by kernel_rfl) (by kernel_rfl) (by decide) (call := z2c) ⟨callOf_ok z2b trivial, callOfE_ok noE trivial⟩ h
attribute [simp] Tryz.f18
def z3a : Ann := ⟨[0], [], [], [], [], some [0], [], [], [(64, 0, 92, 2)], []⟩
@[simp] theorem z3a_draws : z3a.draws = [] := rfl
@[simp] theorem z3a_exits : z3a.exits = [] := rfl
@[simp] theorem z3a_rets : z3a.rets = some [0] := rfl
@[simp] theorem z3a_keep : z3a.keep = [0] := rfl
@[simp] theorem z3a_cond : z3a.cond = [] := rfl
@[simp] theorem z3a_rows : z3a.rows = [] := rfl
@[simp] theorem z3a_loops : z3a.loops = [] := rfl
@[simp] theorem z3a_ecalls : z3a.ecalls = [] := rfl
@[simp] theorem z3a_crows : z3a.crows = [(64, 0, 92, 2)] := rfl
@[simp] theorem z3a_tails : z3a.tails = [] := rfl
@[simp] def z3b : PL := []
def z3c : CT := ⟨callOf (z3b ), callOfE noE, gl⟩
@[simp] theorem z3c_p (f : FuncId) (ds : List D) : z3c.p f ds = callOf (z3b ) f ds := Eq.trans rfl rfl
@[simp] theorem z3c_e (f : FuncId) (hs : List (Nat × O)) (ds : List D) : z3c.e f hs ds = callOfE noE f hs ds := Eq.trans rfl rfl
@[simp] theorem z3c_g (g : Nat) : z3c.g g = gl g := Eq.trans rfl rfl
def L_law45_Plank (i n : Nat) (s : St) : OS := atN Tryz.prog z3c z3a 5 (bodyOf Tryz.f18) i n s
def z3h (n i : Nat) (s : St) : OS := atH Tryz.prog z3c z3a 5 (bodyOf Tryz.f18) n i s
@[simp] theorem z3h_eq (n i : Nat) (s : St) : z3h n i s = L_law45_Plank i n (headOf (z3a.loops.lookup i) s) := rfl
def R_law45_Plank (i : Nat) (s : St) : OS := stepL Tryz.prog z3c z3a 5 (bodyOf Tryz.f18) i s
theorem z3k : okLoops (bodyOf Tryz.f18) = true := by kernel_rfl
def F_law45_Plank (ds : List D) : Option D := runF Tryz.prog z3c z3a 5 (bodyOf Tryz.f18) [.tmp 0] ds
theorem F_law45_Plank_eq (ds : List D) : F_law45_Plank ds = runG Tryz.prog z3c (z3h bigL) z3a 5 (bodyOf Tryz.f18) [.tmp 0] ds := runG_eq z3k _ ds
theorem C_law45_Plank (ds : List D) (r : D) (h : F_law45_Plank ds = some r) : Contract Tryz.prog gl 18 ds r := contract_of mix Tryz.func18 rfl (by kernel_rfl) (by kernel_rfl) (by decide) (call := z3c) ⟨callOf_ok z3b trivial, callOfE_ok noE trivial⟩ h
attribute [simp] Tryz.f19
def z4a : Ann := ⟨[0], [], [], [], [], some [0], [], [], [(64, 0, 92, 2)], []⟩
@[simp] theorem z4a_draws : z4a.draws = [] := rfl
@[simp] theorem z4a_exits : z4a.exits = [] := rfl
@[simp] theorem z4a_rets : z4a.rets = some [0] := rfl
@[simp] theorem z4a_keep : z4a.keep = [0] := rfl
@[simp] theorem z4a_cond : z4a.cond = [] := rfl
@[simp] theorem z4a_rows : z4a.rows = [] := rfl
@[simp] theorem z4a_loops : z4a.loops = [] := rfl
@[simp] theorem z4a_ecalls : z4a.ecalls = [] := rfl
@[simp] theorem z4a_crows : z4a.crows = [(64, 0, 92, 2)] := rfl
@[simp] theorem z4a_tails : z4a.tails = [] := rfl
@[simp] def z4b : PL := []
def z4c : CT := ⟨callOf (z4b ), callOfE noE, gl⟩
@[simp] theorem z4c_p (f : FuncId) (ds : List D) : z4c.p f ds = callOf (z4b ) f ds := Eq.trans rfl rfl
@[simp] theorem z4c_e (f : FuncId) (hs : List (Nat × O)) (ds : List D) : z4c.e f hs ds = callOfE noE f hs ds := Eq.trans rfl rfl
@[simp] theorem z4c_g (g : Nat) : z4c.g g = gl g := Eq.trans rfl rfl
def L_law45_Pine (i n : Nat) (s : St) : OS := atN Tryz.prog z4c z4a 2 (bodyOf Tryz.f19) i n s
def z4h (n i : Nat) (s : St) : OS := atH Tryz.prog z4c z4a 2 (bodyOf Tryz.f19) n i s
@[simp] theorem z4h_eq (n i : Nat) (s : St) : z4h n i s = L_law45_Pine i n (headOf (z4a.loops.lookup i) s) := rfl
def R_law45_Pine (i : Nat) (s : St) : OS := stepL Tryz.prog z4c z4a 2 (bodyOf Tryz.f19) i s
theorem z4k : okLoops (bodyOf Tryz.f19) = true := by kernel_rfl
def F_law45_Pine (ds : List D) : Option D := runF Tryz.prog z4c z4a 2 (bodyOf Tryz.f19) [.cell 0 33] ds
theorem F_law45_Pine_eq (ds : List D) : F_law45_Pine ds = runG Tryz.prog z4c (z4h bigL) z4a 2 (bodyOf Tryz.f19) [.cell 0 33] ds := runG_eq z4k _ ds
theorem C_law45_Pine (ds : List D) (r : D) (h : F_law45_Pine ds = some r) : Contract Tryz.prog gl 19 ds r := contract_of mix Tryz.func19 rfl (by kernel_rfl) (by kernel_rfl) (by decide) (call := z4c) ⟨callOf_ok z4b trivial, callOfE_ok noE trivial⟩ h
attribute [simp] Tryz.f42
def z5a : Ann := ⟨[2], [], [], [], [], some [2], [], [], [(64, 0, 92, 2)], []⟩
@[simp] theorem z5a_draws : z5a.draws = [] := rfl
@[simp] theorem z5a_exits : z5a.exits = [] := rfl
@[simp] theorem z5a_rets : z5a.rets = some [2] := rfl
@[simp] theorem z5a_keep : z5a.keep = [2] := rfl
@[simp] theorem z5a_cond : z5a.cond = [] := rfl
@[simp] theorem z5a_rows : z5a.rows = [] := rfl
@[simp] theorem z5a_loops : z5a.loops = [] := rfl
@[simp] theorem z5a_ecalls : z5a.ecalls = [] := rfl
@[simp] theorem z5a_crows : z5a.crows = [(64, 0, 92, 2)] := rfl
@[simp] theorem z5a_tails : z5a.tails = [] := rfl
@[simp] def z5b : PL := []
def z5c : CT := ⟨callOf (z5b ), callOfE noE, gl⟩
@[simp] theorem z5c_p (f : FuncId) (ds : List D) : z5c.p f ds = callOf (z5b ) f ds := Eq.trans rfl rfl
@[simp] theorem z5c_e (f : FuncId) (hs : List (Nat × O)) (ds : List D) : z5c.e f hs ds = callOfE noE f hs ds := Eq.trans rfl rfl
@[simp] theorem z5c_g (g : Nat) : z5c.g g = gl g := Eq.trans rfl rfl
def L_law45_feature (i n : Nat) (s : St) : OS := atN Tryz.prog z5c z5a 5 (bodyOf Tryz.f42) i n s
def z5h (n i : Nat) (s : St) : OS := atH Tryz.prog z5c z5a 5 (bodyOf Tryz.f42) n i s
@[simp] theorem z5h_eq (n i : Nat) (s : St) : z5h n i s = L_law45_feature i n (headOf (z5a.loops.lookup i) s) := rfl
def R_law45_feature (i : Nat) (s : St) : OS := stepL Tryz.prog z5c z5a 5 (bodyOf Tryz.f42) i s
theorem z5k : okLoops (bodyOf Tryz.f42) = true := by kernel_rfl
def F_law45_feature (ds : List D) : Option D := runF Tryz.prog z5c z5a 5 (bodyOf Tryz.f42) [.cell 2 46] ds
theorem F_law45_feature_eq (ds : List D) : F_law45_feature ds = runG Tryz.prog z5c (z5h bigL) z5a 5 (bodyOf Tryz.f42) [.cell 2 46] ds := runG_eq z5k _ ds
theorem C_law45_feature (ds : List D) (r : D) (h : F_law45_feature ds = some r) : Contract Tryz.prog gl 42 ds r := contract_of mix Tryz.func42 rfl (by kernel_rfl) (by kernel_rfl) (by decide) (call := z5c) ⟨callOf_ok z5b trivial, callOfE_ok noE trivial⟩ h
attribute [simp] Tryz.f43
def z6a : Ann := ⟨[2], [], [], [], [], some [2], [], [], [(64, 0, 92, 2)], []⟩
@[simp] theorem z6a_draws : z6a.draws = [] := rfl
@[simp] theorem z6a_exits : z6a.exits = [] := rfl
@[simp] theorem z6a_rets : z6a.rets = some [2] := rfl
@[simp] theorem z6a_keep : z6a.keep = [2] := rfl
@[simp] theorem z6a_cond : z6a.cond = [] := rfl
@[simp] theorem z6a_rows : z6a.rows = [] := rfl
@[simp] theorem z6a_loops : z6a.loops = [] := rfl
@[simp] theorem z6a_ecalls : z6a.ecalls = [] := rfl
@[simp] theorem z6a_crows : z6a.crows = [(64, 0, 92, 2)] := rfl
@[simp] theorem z6a_tails : z6a.tails = [] := rfl
@[simp] def z6b : PL := []
def z6c : CT := ⟨callOf (z6b ), callOfE noE, gl⟩
@[simp] theorem z6c_p (f : FuncId) (ds : List D) : z6c.p f ds = callOf (z6b ) f ds := Eq.trans rfl rfl
@[simp] theorem z6c_e (f : FuncId) (hs : List (Nat × O)) (ds : List D) : z6c.e f hs ds = callOfE noE f hs ds := Eq.trans rfl rfl
@[simp] theorem z6c_g (g : Nat) : z6c.g g = gl g := Eq.trans rfl rfl
def L_law45_number (i n : Nat) (s : St) : OS := atN Tryz.prog z6c z6a 5 (bodyOf Tryz.f43) i n s
def z6h (n i : Nat) (s : St) : OS := atH Tryz.prog z6c z6a 5 (bodyOf Tryz.f43) n i s
@[simp] theorem z6h_eq (n i : Nat) (s : St) : z6h n i s = L_law45_number i n (headOf (z6a.loops.lookup i) s) := rfl
def R_law45_number (i : Nat) (s : St) : OS := stepL Tryz.prog z6c z6a 5 (bodyOf Tryz.f43) i s
theorem z6k : okLoops (bodyOf Tryz.f43) = true := by kernel_rfl
def F_law45_number (ds : List D) : Option D := runF Tryz.prog z6c z6a 5 (bodyOf Tryz.f43) [.cell 2 46] ds
theorem F_law45_number_eq (ds : List D) : F_law45_number ds = runG Tryz.prog z6c (z6h bigL) z6a 5 (bodyOf Tryz.f43) [.cell 2 46] ds := runG_eq z6k _ ds
theorem C_law45_number (ds : List D) (r : D) (h : F_law45_number ds = some r) : Contract Tryz.prog gl 43 ds r := contract_of mix Tryz.func43 rfl (by kernel_rfl) (by kernel_rfl) (by decide) (call := z6c) ⟨callOf_ok z6b trivial, callOfE_ok noE trivial⟩ h
attribute [simp] Tryz.f41
def z7a : Ann := ⟨[4, 5, 6], [], [], [], [], some [6], [], [], [(64, 0, 92, 2)], []⟩
@[simp] theorem z7a_draws : z7a.draws = [] := rfl
@[simp] theorem z7a_exits : z7a.exits = [] := rfl
@[simp] theorem z7a_rets : z7a.rets = some [6] := rfl
@[simp] theorem z7a_keep : z7a.keep = [4, 5, 6] := rfl
@[simp] theorem z7a_cond : z7a.cond = [] := rfl
@[simp] theorem z7a_rows : z7a.rows = [] := rfl
@[simp] theorem z7a_loops : z7a.loops = [] := rfl
@[simp] theorem z7a_ecalls : z7a.ecalls = [] := rfl
@[simp] theorem z7a_crows : z7a.crows = [(64, 0, 92, 2)] := rfl
@[simp] theorem z7a_tails : z7a.tails = [] := rfl
@[simp] def z7b : PL := []
def z7c : CT := ⟨callOf (z7b ), callOfE noE, gl⟩
@[simp] theorem z7c_p (f : FuncId) (ds : List D) : z7c.p f ds = callOf (z7b ) f ds := Eq.trans rfl rfl
@[simp] theorem z7c_e (f : FuncId) (hs : List (Nat × O)) (ds : List D) : z7c.e f hs ds = callOfE noE f hs ds := Eq.trans rfl rfl
@[simp] theorem z7c_g (g : Nat) : z7c.g g = gl g := Eq.trans rfl rfl
def L_law45_two (i n : Nat) (s : St) : OS := atN Tryz.prog z7c z7a 12 (bodyOf Tryz.f41) i n s
def z7h (n i : Nat) (s : St) : OS := atH Tryz.prog z7c z7a 12 (bodyOf Tryz.f41) n i s
@[simp] theorem z7h_eq (n i : Nat) (s : St) : z7h n i s = L_law45_two i n (headOf (z7a.loops.lookup i) s) := rfl
def R_law45_two (i : Nat) (s : St) : OS := stepL Tryz.prog z7c z7a 12 (bodyOf Tryz.f41) i s
theorem z7k : okLoops (bodyOf Tryz.f41) = true := by kernel_rfl
def F_law45_two (ds : List D) : Option D := runF Tryz.prog z7c z7a 12 (bodyOf Tryz.f41) [.cell 6 46] ds
theorem F_law45_two_eq (ds : List D) : F_law45_two ds = runG Tryz.prog z7c (z7h bigL) z7a 12 (bodyOf Tryz.f41) [.cell 6 46] ds := runG_eq z7k _ ds
theorem C_law45_two (ds : List D) (r : D) (h : F_law45_two ds = some r) : Contract Tryz.prog gl 41 ds r := contract_of mix Tryz.func41 rfl (by kernel_rfl) (by kernel_rfl) (by decide) (call := z7c) ⟨callOf_ok z7b trivial, callOfE_ok noE trivial⟩ h
attribute [simp] Tryz.f20
def z8a : Ann := ⟨[0, 1, 2], [], [], [], [], some [0], [], [], [(64, 0, 92, 2)], []⟩
@[simp] theorem z8a_draws : z8a.draws = [] := rfl
@[simp] theorem z8a_exits : z8a.exits = [] := rfl
@[simp] theorem z8a_rets : z8a.rets = some [0] := rfl
@[simp] theorem z8a_keep : z8a.keep = [0, 1, 2] := rfl
@[simp] theorem z8a_cond : z8a.cond = [] := rfl
@[simp] theorem z8a_rows : z8a.rows = [] := rfl
@[simp] theorem z8a_loops : z8a.loops = [] := rfl
@[simp] theorem z8a_ecalls : z8a.ecalls = [] := rfl
@[simp] theorem z8a_crows : z8a.crows = [(64, 0, 92, 2)] := rfl
@[simp] theorem z8a_tails : z8a.tails = [] := rfl
@[simp] def z8b : PL := [(41, F_law45_two), (42, F_law45_feature), (43, F_law45_number)]
def z8c : CT := ⟨callOf (z8b ), callOfE noE, gl⟩
@[simp] theorem z8c_p (f : FuncId) (ds : List D) : z8c.p f ds = callOf (z8b ) f ds := Eq.trans rfl rfl
@[simp] theorem z8c_e (f : FuncId) (hs : List (Nat × O)) (ds : List D) : z8c.e f hs ds = callOfE noE f hs ds := Eq.trans rfl rfl
@[simp] theorem z8c_g (g : Nat) : z8c.g g = gl g := Eq.trans rfl rfl
def L_law45_Table (i n : Nat) (s : St) : OS := atN Tryz.prog z8c z8a 22 (bodyOf Tryz.f20) i n s
def z8h (n i : Nat) (s : St) : OS := atH Tryz.prog z8c z8a 22 (bodyOf Tryz.f20) n i s
@[simp] theorem z8h_eq (n i : Nat) (s : St) : z8h n i s = L_law45_Table i n (headOf (z8a.loops.lookup i) s) := rfl
def R_law45_Table (i : Nat) (s : St) : OS := stepL Tryz.prog z8c z8a 22 (bodyOf Tryz.f20) i s
theorem z8k : okLoops (bodyOf Tryz.f20) = true := by kernel_rfl
def F_law45_Table (ds : List D) : Option D := runF Tryz.prog z8c z8a 22 (bodyOf Tryz.f20) [.tmp 0] ds
theorem F_law45_Table_eq (ds : List D) : F_law45_Table ds = runG Tryz.prog z8c (z8h bigL) z8a 22 (bodyOf Tryz.f20) [.tmp 0] ds := runG_eq z8k _ ds
theorem C_law45_Table (ds : List D) (r : D) (h : F_law45_Table ds = some r) : Contract Tryz.prog gl 20 ds r := contract_of mix Tryz.func20 rfl (by kernel_rfl) (by kernel_rfl) (by decide) (call := z8c) ⟨callOf_ok z8b ⟨C_law45_two, C_law45_feature, C_law45_number, trivial⟩, callOfE_ok noE trivial⟩ h
attribute [simp] Tryz.f148
def z9a : Ann := ⟨[2], [], [], [], [], some [2], [], [], [(64, 0, 92, 2)], []⟩
@[simp] theorem z9a_draws : z9a.draws = [] := rfl
@[simp] theorem z9a_exits : z9a.exits = [] := rfl
@[simp] theorem z9a_rets : z9a.rets = some [2] := rfl
@[simp] theorem z9a_keep : z9a.keep = [2] := rfl
@[simp] theorem z9a_cond : z9a.cond = [] := rfl
@[simp] theorem z9a_rows : z9a.rows = [] := rfl
@[simp] theorem z9a_loops : z9a.loops = [] := rfl
@[simp] theorem z9a_ecalls : z9a.ecalls = [] := rfl
@[simp] theorem z9a_crows : z9a.crows = [(64, 0, 92, 2)] := rfl
@[simp] theorem z9a_tails : z9a.tails = [] := rfl
@[simp] def z9b : PL := []
def z9c : CT := ⟨callOf (z9b ), callOfE noE, gl⟩
@[simp] theorem z9c_p (f : FuncId) (ds : List D) : z9c.p f ds = callOf (z9b ) f ds := Eq.trans rfl rfl
@[simp] theorem z9c_e (f : FuncId) (hs : List (Nat × O)) (ds : List D) : z9c.e f hs ds = callOfE noE f hs ds := Eq.trans rfl rfl
@[simp] theorem z9c_g (g : Nat) : z9c.g g = gl g := Eq.trans rfl rfl
def L_ident_isSmall (i n : Nat) (s : St) : OS := atN Tryz.prog z9c z9a 9 (bodyOf Tryz.f148) i n s
def z9h (n i : Nat) (s : St) : OS := atH Tryz.prog z9c z9a 9 (bodyOf Tryz.f148) n i s
@[simp] theorem z9h_eq (n i : Nat) (s : St) : z9h n i s = L_ident_isSmall i n (headOf (z9a.loops.lookup i) s) := rfl
def R_ident_isSmall (i : Nat) (s : St) : OS := stepL Tryz.prog z9c z9a 9 (bodyOf Tryz.f148) i s
theorem z9k : okLoops (bodyOf Tryz.f148) = true := by kernel_rfl
def F_ident_isSmall (ds : List D) : Option D := runF Tryz.prog z9c z9a 9 (bodyOf Tryz.f148) [.tmp 2] ds
theorem F_ident_isSmall_eq (ds : List D) : F_ident_isSmall ds = runG Tryz.prog z9c (z9h bigL) z9a 9 (bodyOf Tryz.f148) [.tmp 2] ds := runG_eq z9k _ ds
theorem C_ident_isSmall (ds : List D) (r : D) (h : F_ident_isSmall ds = some r) : Contract Tryz.prog gl 148 ds r := contract_of mix Tryz.func148 rfl (by kernel_rfl) (by kernel_rfl) (by decide) (call := z9c) ⟨callOf_ok z9b trivial, callOfE_ok noE trivial⟩ h
attribute [simp] Tryz.f149
def z10a : Ann := ⟨[2], [], [], [], [], some [2], [], [], [(64, 0, 92, 2)], []⟩
@[simp] theorem z10a_draws : z10a.draws = [] := rfl
@[simp] theorem z10a_exits : z10a.exits = [] := rfl
@[simp] theorem z10a_rets : z10a.rets = some [2] := rfl
@[simp] theorem z10a_keep : z10a.keep = [2] := rfl
@[simp] theorem z10a_cond : z10a.cond = [] := rfl
@[simp] theorem z10a_rows : z10a.rows = [] := rfl
@[simp] theorem z10a_loops : z10a.loops = [] := rfl
@[simp] theorem z10a_ecalls : z10a.ecalls = [] := rfl
@[simp] theorem z10a_crows : z10a.crows = [(64, 0, 92, 2)] := rfl
@[simp] theorem z10a_tails : z10a.tails = [] := rfl
@[simp] def z10b : PL := []
def z10c : CT := ⟨callOf (z10b ), callOfE noE, gl⟩
@[simp] theorem z10c_p (f : FuncId) (ds : List D) : z10c.p f ds = callOf (z10b ) f ds := Eq.trans rfl rfl
@[simp] theorem z10c_e (f : FuncId) (hs : List (Nat × O)) (ds : List D) : z10c.e f hs ds = callOfE noE f hs ds := Eq.trans rfl rfl
@[simp] theorem z10c_g (g : Nat) : z10c.g g = gl g := Eq.trans rfl rfl
def L_ident_isDigit (i n : Nat) (s : St) : OS := atN Tryz.prog z10c z10a 9 (bodyOf Tryz.f149) i n s
def z10h (n i : Nat) (s : St) : OS := atH Tryz.prog z10c z10a 9 (bodyOf Tryz.f149) n i s
@[simp] theorem z10h_eq (n i : Nat) (s : St) : z10h n i s = L_ident_isDigit i n (headOf (z10a.loops.lookup i) s) := rfl
def R_ident_isDigit (i : Nat) (s : St) : OS := stepL Tryz.prog z10c z10a 9 (bodyOf Tryz.f149) i s
theorem z10k : okLoops (bodyOf Tryz.f149) = true := by kernel_rfl
def F_ident_isDigit (ds : List D) : Option D := runF Tryz.prog z10c z10a 9 (bodyOf Tryz.f149) [.tmp 2] ds
theorem F_ident_isDigit_eq (ds : List D) : F_ident_isDigit ds = runG Tryz.prog z10c (z10h bigL) z10a 9 (bodyOf Tryz.f149) [.tmp 2] ds := runG_eq z10k _ ds
theorem C_ident_isDigit (ds : List D) (r : D) (h : F_ident_isDigit ds = some r) : Contract Tryz.prog gl 149 ds r := contract_of mix Tryz.func149 rfl (by kernel_rfl) (by kernel_rfl) (by decide) (call := z10c) ⟨callOf_ok z10b trivial, callOfE_ok noE trivial⟩ h
attribute [simp] Tryz.f86
def z11a : Ann := ⟨[0, 2, 3, 4], [18, 22, 39], [], [(4, [0, 3])], [(0, []), (1, [0, 3])], some [2], [], [], [(64, 0, 92, 2)], []⟩
@[simp] theorem z11a_draws : z11a.draws = [] := rfl
@[simp] theorem z11a_exits : z11a.exits = [(0, []), (1, [0, 3])] := rfl
@[simp] theorem z11a_rets : z11a.rets = some [2] := rfl
@[simp] theorem z11a_keep : z11a.keep = [0, 2, 3, 4] := rfl
@[simp] theorem z11a_cond : z11a.cond = [18, 22, 39] := rfl
@[simp] theorem z11a_rows : z11a.rows = [] := rfl
@[simp] theorem z11a_loops : z11a.loops = [(4, [0, 3])] := rfl
@[simp] theorem z11a_ecalls : z11a.ecalls = [] := rfl
@[simp] theorem z11a_crows : z11a.crows = [(64, 0, 92, 2)] := rfl
@[simp] theorem z11a_tails : z11a.tails = [] := rfl
@[simp] def z11b : PL := [(148, F_ident_isSmall), (149, F_ident_isDigit)]
def z11c : CT := ⟨callOf (z11b ), callOfE noE, gl⟩
@[simp] theorem z11c_p (f : FuncId) (ds : List D) : z11c.p f ds = callOf (z11b ) f ds := Eq.trans rfl rfl
@[simp] theorem z11c_e (f : FuncId) (hs : List (Nat × O)) (ds : List D) : z11c.e f hs ds = callOfE noE f hs ds := Eq.trans rfl rfl
@[simp] theorem z11c_g (g : Nat) : z11c.g g = gl g := Eq.trans rfl rfl
def L_ident_IsName (i n : Nat) (s : St) : OS := atN Tryz.prog z11c z11a 40 (bodyOf Tryz.f86) i n s
def z11h (n i : Nat) (s : St) : OS := atH Tryz.prog z11c z11a 40 (bodyOf Tryz.f86) n i s
@[simp] theorem z11h_eq (n i : Nat) (s : St) : z11h n i s = L_ident_IsName i n (headOf (z11a.loops.lookup i) s) := rfl
def R_ident_IsName (i : Nat) (s : St) : OS := stepL Tryz.prog z11c z11a 40 (bodyOf Tryz.f86) i s
theorem z11k : okLoops (bodyOf Tryz.f86) = true := by kernel_rfl
theorem L_ident_IsName_zero (i : Nat) (s : St) : L_ident_IsName i 0 s = none := rfl
theorem L_ident_IsName_succ (i n : Nat) (s : St) : L_ident_IsName i (n + 1) s = andThen (R_ident_IsName i s) (z11h n i) := atN_succ z11k i n s
theorem R_ident_IsName_eq (i : Nat) (s : St) : R_ident_IsName i s = runS Tryz.prog z11c (z11h bigL) z11a 40 (loopAt (bodyOf Tryz.f86) i) s := rfl
def F_ident_IsName (ds : List D) : Option D := runF Tryz.prog z11c z11a 40 (bodyOf Tryz.f86) [.tmp 2] ds
theorem F_ident_IsName_eq (ds : List D) : F_ident_IsName ds = runG Tryz.prog z11c (z11h bigL) z11a 40 (bodyOf Tryz.f86) [.tmp 2] ds := runG_eq z11k _ ds
theorem C_ident_IsName (ds : List D) (r : D) (h : F_ident_IsName ds = some r) : Contract Tryz.prog gl 86 ds r := contract_of mix Tryz.func86 rfl (by kernel_rfl) (by kernel_rfl) (by decide) (call := z11c) ⟨callOf_ok z11b ⟨C_ident_isSmall, C_ident_isDigit, trivial⟩, callOfE_ok noE trivial⟩ h
attribute [simp] Tryz.f87
def z12a : Ann := ⟨[4, 5, 6, 7, 8, 9, 10], [11, 18], [], [(2, [1, 8, 9, 10])], [(0, []), (1, [1, 8, 9, 10])], some [4, 5], [], [], [(64, 0, 92, 2)], []⟩
@[simp] theorem z12a_draws : z12a.draws = [] := rfl
@[simp] theorem z12a_exits : z12a.exits = [(0, []), (1, [1, 8, 9, 10])] := rfl
@[simp] theorem z12a_rets : z12a.rets = some [4, 5] := rfl
@[simp] theorem z12a_keep : z12a.keep = [4, 5, 6, 7, 8, 9, 10] := rfl
@[simp] theorem z12a_cond : z12a.cond = [11, 18] := rfl
@[simp] theorem z12a_rows : z12a.rows = [] := rfl
@[simp] theorem z12a_loops : z12a.loops = [(2, [1, 8, 9, 10])] := rfl
@[simp] theorem z12a_ecalls : z12a.ecalls = [] := rfl
@[simp] theorem z12a_crows : z12a.crows = [(64, 0, 92, 2)] := rfl
@[simp] theorem z12a_tails : z12a.tails = [] := rfl
@[simp] def z12b : PL := []
def z12c : CT := ⟨callOf (z12b ), callOfE noE, gl⟩
@[simp] theorem z12c_p (f : FuncId) (ds : List D) : z12c.p f ds = callOf (z12b ) f ds := Eq.trans rfl rfl
@[simp] theorem z12c_e (f : FuncId) (hs : List (Nat × O)) (ds : List D) : z12c.e f hs ds = callOfE noE f hs ds := Eq.trans rfl rfl
@[simp] theorem z12c_g (g : Nat) : z12c.g g = gl g := Eq.trans rfl rfl
def L_product_Find (i n : Nat) (s : St) : OS := atN Tryz.prog z12c z12a 21 (bodyOf Tryz.f87) i n s
def z12h (n i : Nat) (s : St) : OS := atH Tryz.prog z12c z12a 21 (bodyOf Tryz.f87) n i s
@[simp] theorem z12h_eq (n i : Nat) (s : St) : z12h n i s = L_product_Find i n (headOf (z12a.loops.lookup i) s) := rfl
def R_product_Find (i : Nat) (s : St) : OS := stepL Tryz.prog z12c z12a 21 (bodyOf Tryz.f87) i s
theorem z12k : okLoops (bodyOf Tryz.f87) = true := by kernel_rfl
theorem L_product_Find_zero (i : Nat) (s : St) : L_product_Find i 0 s = none := rfl
theorem L_product_Find_succ (i n : Nat) (s : St) : L_product_Find i (n + 1) s = andThen (R_product_Find i s) (z12h n i) := atN_succ z12k i n s
theorem R_product_Find_eq (i : Nat) (s : St) : R_product_Find i s = runS Tryz.prog z12c (z12h bigL) z12a 21 (loopAt (bodyOf Tryz.f87) i) s := rfl
def F_product_Find (ds : List D) : Option D := runF Tryz.prog z12c z12a 21 (bodyOf Tryz.f87) [.tmp 4, .tmp 5] ds
theorem F_product_Find_eq (ds : List D) : F_product_Find ds = runG Tryz.prog z12c (z12h bigL) z12a 21 (bodyOf Tryz.f87) [.tmp 4, .tmp 5] ds := runG_eq z12k _ ds
theorem C_product_Find (ds : List D) (r : D) (h : F_product_Find ds = some r) : Contract Tryz.prog gl 87 ds r := contract_of mix Tryz.func87 rfl (by kernel_rfl) (by kernel_rfl) (by decide) (call := z12c) ⟨callOf_ok z12b trivial, callOfE_ok noE trivial⟩ h
attribute [simp] Tryz.f151
def z13a : Ann := ⟨[2], [], [], [], [], some [2], [], [], [(64, 0, 92, 2)], []⟩
@[simp] theorem z13a_draws : z13a.draws = [] := rfl
@[simp] theorem z13a_exits : z13a.exits = [] := rfl
@[simp] theorem z13a_rets : z13a.rets = some [2] := rfl
@[simp] theorem z13a_keep : z13a.keep = [2] := rfl
@[simp] theorem z13a_cond : z13a.cond = [] := rfl
@[simp] theorem z13a_rows : z13a.rows = [] := rfl
@[simp] theorem z13a_loops : z13a.loops = [] := rfl
@[simp] theorem z13a_ecalls : z13a.ecalls = [] := rfl
@[simp] theorem z13a_crows : z13a.crows = [(64, 0, 92, 2)] := rfl
@[simp] theorem z13a_tails : z13a.tails = [] := rfl
@[simp] def z13b : PL := []
def z13c : CT := ⟨callOf (z13b ), callOfE noE, gl⟩
@[simp] theorem z13c_p (f : FuncId) (ds : List D) : z13c.p f ds = callOf (z13b ) f ds := Eq.trans rfl rfl
@[simp] theorem z13c_e (f : FuncId) (hs : List (Nat × O)) (ds : List D) : z13c.e f hs ds = callOfE noE f hs ds := Eq.trans rfl rfl
@[simp] theorem z13c_g (g : Nat) : z13c.g g = gl g := Eq.trans rfl rfl
def L_product_isSize (i n : Nat) (s : St) : OS := atN Tryz.prog z13c z13a 9 (bodyOf Tryz.f151) i n s
def z13h (n i : Nat) (s : St) : OS := atH Tryz.prog z13c z13a 9 (bodyOf Tryz.f151) n i s
@[simp] theorem z13h_eq (n i : Nat) (s : St) : z13h n i s = L_product_isSize i n (headOf (z13a.loops.lookup i) s) := rfl
def R_product_isSize (i : Nat) (s : St) : OS := stepL Tryz.prog z13c z13a 9 (bodyOf Tryz.f151) i s
theorem z13k : okLoops (bodyOf Tryz.f151) = true := by kernel_rfl
def F_product_isSize (ds : List D) : Option D := runF Tryz.prog z13c z13a 9 (bodyOf Tryz.f151) [.tmp 2] ds
theorem F_product_isSize_eq (ds : List D) : F_product_isSize ds = runG Tryz.prog z13c (z13h bigL) z13a 9 (bodyOf Tryz.f151) [.tmp 2] ds := runG_eq z13k _ ds
theorem C_product_isSize (ds : List D) (r : D) (h : F_product_isSize ds = some r) : Contract Tryz.prog gl 151 ds r := contract_of mix Tryz.func151 rfl (by kernel_rfl) (by kernel_rfl) (by decide) (call := z13c) ⟨callOf_ok z13b trivial, callOfE_ok noE trivial⟩ h
attribute [simp] Tryz.f152
def z14a : Ann := ⟨[4], [], [], [], [], some [4], [], [], [(64, 0, 92, 2)], []⟩
@[simp] theorem z14a_draws : z14a.draws = [] := rfl
@[simp] theorem z14a_exits : z14a.exits = [] := rfl
@[simp] theorem z14a_rets : z14a.rets = some [4] := rfl
@[simp] theorem z14a_keep : z14a.keep = [4] := rfl
@[simp] theorem z14a_cond : z14a.cond = [] := rfl
@[simp] theorem z14a_rows : z14a.rows = [] := rfl
@[simp] theorem z14a_loops : z14a.loops = [] := rfl
@[simp] theorem z14a_ecalls : z14a.ecalls = [] := rfl
@[simp] theorem z14a_crows : z14a.crows = [(64, 0, 92, 2)] := rfl
@[simp] theorem z14a_tails : z14a.tails = [] := rfl
@[simp] def z14b : PL := []
def z14c : CT := ⟨callOf (z14b ), callOfE noE, gl⟩
@[simp] theorem z14c_p (f : FuncId) (ds : List D) : z14c.p f ds = callOf (z14b ) f ds := Eq.trans rfl rfl
@[simp] theorem z14c_e (f : FuncId) (hs : List (Nat × O)) (ds : List D) : z14c.e f hs ds = callOfE noE f hs ds := Eq.trans rfl rfl
@[simp] theorem z14c_g (g : Nat) : z14c.g g = gl g := Eq.trans rfl rfl
def L_product_grow (i n : Nat) (s : St) : OS := atN Tryz.prog z14c z14a 11 (bodyOf Tryz.f152) i n s
def z14h (n i : Nat) (s : St) : OS := atH Tryz.prog z14c z14a 11 (bodyOf Tryz.f152) n i s
@[simp] theorem z14h_eq (n i : Nat) (s : St) : z14h n i s = L_product_grow i n (headOf (z14a.loops.lookup i) s) := rfl
def R_product_grow (i : Nat) (s : St) : OS := stepL Tryz.prog z14c z14a 11 (bodyOf Tryz.f152) i s
theorem z14k : okLoops (bodyOf Tryz.f152) = true := by kernel_rfl
def F_product_grow (ds : List D) : Option D := runF Tryz.prog z14c z14a 11 (bodyOf Tryz.f152) [.tmp 4] ds
theorem F_product_grow_eq (ds : List D) : F_product_grow ds = runG Tryz.prog z14c (z14h bigL) z14a 11 (bodyOf Tryz.f152) [.tmp 4] ds := runG_eq z14k _ ds
theorem C_product_grow (ds : List D) (r : D) (h : F_product_grow ds = some r) : Contract Tryz.prog gl 152 ds r := contract_of mix Tryz.func152 rfl (by kernel_rfl) (by kernel_rfl) (by decide) (call := z14c) ⟨callOf_ok z14b trivial, callOfE_ok noE trivial⟩ h
attribute [simp] Tryz.f92
def z15a : Ann := ⟨[1, 2, 3], [23], [], [], [], some [2, 3], [(3, 9)], [], [(64, 0, 92, 2)], []⟩
@[simp] theorem z15a_draws : z15a.draws = [(3, 9)] := rfl
@[simp] theorem z15a_exits : z15a.exits = [] := rfl
@[simp] theorem z15a_rets : z15a.rets = some [2, 3] := rfl
@[simp] theorem z15a_keep : z15a.keep = [1, 2, 3] := rfl
@[simp] theorem z15a_cond : z15a.cond = [23] := rfl
@[simp] theorem z15a_rows : z15a.rows = [] := rfl
@[simp] theorem z15a_loops : z15a.loops = [] := rfl
@[simp] theorem z15a_ecalls : z15a.ecalls = [] := rfl
@[simp] theorem z15a_crows : z15a.crows = [(64, 0, 92, 2)] := rfl
@[simp] theorem z15a_tails : z15a.tails = [] := rfl
@[simp] def z15b : PL := [(151, F_product_isSize), (152, F_product_grow)]
def z15c : CT := ⟨callOf (z15b ), callOfE noE, gl⟩
@[simp] theorem z15c_p (f : FuncId) (ds : List D) : z15c.p f ds = callOf (z15b ) f ds := Eq.trans rfl rfl
@[simp] theorem z15c_e (f : FuncId) (hs : List (Nat × O)) (ds : List D) : z15c.e f hs ds = callOfE noE f hs ds := Eq.trans rfl rfl
@[simp] theorem z15c_g (g : Nat) : z15c.g g = gl g := Eq.trans rfl rfl
def L_product_Green (i n : Nat) (s : St) : OS := atN Tryz.prog z15c z15a 34 (bodyOf Tryz.f92) i n s
def z15h (n i : Nat) (s : St) : OS := atH Tryz.prog z15c z15a 34 (bodyOf Tryz.f92) n i s
@[simp] theorem z15h_eq (n i : Nat) (s : St) : z15h n i s = L_product_Green i n (headOf (z15a.loops.lookup i) s) := rfl
def R_product_Green (i : Nat) (s : St) : OS := stepL Tryz.prog z15c z15a 34 (bodyOf Tryz.f92) i s
theorem z15k : okLoops (bodyOf Tryz.f92) = true := by kernel_rfl
def F_product_Green (ds : List D) : Option D := runF Tryz.prog z15c z15a 34 (bodyOf Tryz.f92) [.tmp 2, .tmp 3] ds
theorem F_product_Green_eq (ds : List D) : F_product_Green ds = runG Tryz.prog z15c (z15h bigL) z15a 34 (bodyOf Tryz.f92) [.tmp 2, .tmp 3] ds := runG_eq z15k _ ds
theorem C_product_Green (ds : List D) (r : D) (h : F_product_Green ds = some r) : Contract Tryz.prog gl 92 ds r := contract_of mix Tryz.func92 rfl (by kernel_rfl) (by kernel_rfl) (by decide) (call := z15c) ⟨callOf_ok z15b ⟨C_product_isSize, C_product_grow, trivial⟩, callOfE_ok noE trivial⟩ h
attribute [simp] Tryz.f88
def z16a : Ann := ⟨[1, 2, 4, 5, 6, 8, 70, 71, 72, 97, 98, 99], [28, 46, 53, 57, 61, 68, 73, 82, 94, 100, 108], [], [(15, [1, 70, 71, 72]), (23, [97, 98, 99])], [(0, [1]), (1, [1, 70, 71, 72]), (2, []), (3, [97, 98, 99])], some [2], [], [], [(64, 0, 92, 2)], []⟩
@[simp] theorem z16a_draws : z16a.draws = [] := rfl
@[simp] theorem z16a_exits : z16a.exits = [(0, [1]), (1, [1, 70, 71, 72]), (2, []), (3, [97, 98, 99])] := rfl
@[simp] theorem z16a_rets : z16a.rets = some [2] := rfl
@[simp] theorem z16a_keep : z16a.keep = [1, 2, 4, 5, 6, 8, 70, 71, 72, 97, 98, 99] := rfl
@[simp] theorem z16a_cond : z16a.cond = [28, 46, 53, 57, 61, 68, 73, 82, 94, 100, 108] := rfl
@[simp] theorem z16a_rows : z16a.rows = [] := rfl
@[simp] theorem z16a_loops : z16a.loops = [(15, [1, 70, 71, 72]), (23, [97, 98, 99])] := rfl
@[simp] theorem z16a_ecalls : z16a.ecalls = [] := rfl
@[simp] theorem z16a_crows : z16a.crows = [(64, 0, 92, 2)] := rfl
@[simp] theorem z16a_tails : z16a.tails = [] := rfl
@[simp] def z16b : PL := [(92, F_product_Green)]
def z16c : CT := ⟨callOf (z16b ), callOfE noE, gl⟩
@[simp] theorem z16c_p (f : FuncId) (ds : List D) : z16c.p f ds = callOf (z16b ) f ds := Eq.trans rfl rfl
@[simp] theorem z16c_e (f : FuncId) (hs : List (Nat × O)) (ds : List D) : z16c.e f hs ds = callOfE noE f hs ds := Eq.trans rfl rfl
@[simp] theorem z16c_g (g : Nat) : z16c.g g = gl g := Eq.trans rfl rfl
def L_product_checkNumbers (i n : Nat) (s : St) : OS := atN Tryz.prog z16c z16a 110 (bodyOf Tryz.f88) i n s
def z16h (n i : Nat) (s : St) : OS := atH Tryz.prog z16c z16a 110 (bodyOf Tryz.f88) n i s
@[simp] theorem z16h_eq (n i : Nat) (s : St) : z16h n i s = L_product_checkNumbers i n (headOf (z16a.loops.lookup i) s) := rfl
def R_product_checkNumbers (i : Nat) (s : St) : OS := stepL Tryz.prog z16c z16a 110 (bodyOf Tryz.f88) i s
theorem z16k : okLoops (bodyOf Tryz.f88) = true := by kernel_rfl
theorem L_product_checkNumbers_zero (i : Nat) (s : St) : L_product_checkNumbers i 0 s = none := rfl
theorem L_product_checkNumbers_succ (i n : Nat) (s : St) : L_product_checkNumbers i (n + 1) s = andThen (R_product_checkNumbers i s) (z16h n i) := atN_succ z16k i n s
theorem R_product_checkNumbers_eq (i : Nat) (s : St) : R_product_checkNumbers i s = runS Tryz.prog z16c (z16h bigL) z16a 110 (loopAt (bodyOf Tryz.f88) i) s := rfl
def F_product_checkNumbers (ds : List D) : Option D := runF Tryz.prog z16c z16a 110 (bodyOf Tryz.f88) [.tmp 2] ds
theorem F_product_checkNumbers_eq (ds : List D) : F_product_checkNumbers ds = runG Tryz.prog z16c (z16h bigL) z16a 110 (bodyOf Tryz.f88) [.tmp 2] ds := runG_eq z16k _ ds
theorem C_product_checkNumbers (ds : List D) (r : D) (h : F_product_checkNumbers ds = some r) : Contract Tryz.prog gl 88 ds r := contract_of mix Tryz.func88 rfl (by kernel_rfl) (by kernel_rfl) (by decide) (call := z16c) ⟨callOf_ok z16b ⟨C_product_Green, trivial⟩, callOfE_ok noE trivial⟩ h
attribute [simp] Tryz.f44
def z17a : Ann := ⟨[0, 2, 3, 4, 6, 7, 11, 12, 13], [10, 14, 21, 31, 35], [], [(4, [0, 11, 12, 13])], [(0, []), (1, [0, 11, 12, 13])], some [2], [(8, 10)], [], [(64, 0, 92, 2)], []⟩
@[simp] theorem z17a_draws : z17a.draws = [(8, 10)] := rfl
@[simp] theorem z17a_exits : z17a.exits = [(0, []), (1, [0, 11, 12, 13])] := rfl
@[simp] theorem z17a_rets : z17a.rets = some [2] := rfl
@[simp] theorem z17a_keep : z17a.keep = [0, 2, 3, 4, 6, 7, 11, 12, 13] := rfl
@[simp] theorem z17a_cond : z17a.cond = [10, 14, 21, 31, 35] := rfl
@[simp] theorem z17a_rows : z17a.rows = [] := rfl
@[simp] theorem z17a_loops : z17a.loops = [(4, [0, 11, 12, 13])] := rfl
@[simp] theorem z17a_ecalls : z17a.ecalls = [] := rfl
@[simp] theorem z17a_crows : z17a.crows = [(64, 0, 92, 2)] := rfl
@[simp] theorem z17a_tails : z17a.tails = [] := rfl
@[simp] def z17b : PL := [(86, F_ident_IsName), (87, F_product_Find), (88, F_product_checkNumbers)]
def z17c : CT := ⟨callOf (z17b ), callOfE noE, gl⟩
@[simp] theorem z17c_p (f : FuncId) (ds : List D) : z17c.p f ds = callOf (z17b ) f ds := Eq.trans rfl rfl
@[simp] theorem z17c_e (f : FuncId) (hs : List (Nat × O)) (ds : List D) : z17c.e f hs ds = callOfE noE f hs ds := Eq.trans rfl rfl
@[simp] theorem z17c_g (g : Nat) : z17c.g g = gl g := Eq.trans rfl rfl
def L_product_Check (i n : Nat) (s : St) : OS := atN Tryz.prog z17c z17a 38 (bodyOf Tryz.f44) i n s
def z17h (n i : Nat) (s : St) : OS := atH Tryz.prog z17c z17a 38 (bodyOf Tryz.f44) n i s
@[simp] theorem z17h_eq (n i : Nat) (s : St) : z17h n i s = L_product_Check i n (headOf (z17a.loops.lookup i) s) := rfl
def R_product_Check (i : Nat) (s : St) : OS := stepL Tryz.prog z17c z17a 38 (bodyOf Tryz.f44) i s
theorem z17k : okLoops (bodyOf Tryz.f44) = true := by kernel_rfl
theorem L_product_Check_zero (i : Nat) (s : St) : L_product_Check i 0 s = none := rfl
theorem L_product_Check_succ (i n : Nat) (s : St) : L_product_Check i (n + 1) s = andThen (R_product_Check i s) (z17h n i) := atN_succ z17k i n s
theorem R_product_Check_eq (i : Nat) (s : St) : R_product_Check i s = runS Tryz.prog z17c (z17h bigL) z17a 38 (loopAt (bodyOf Tryz.f44) i) s := rfl
def F_product_Check (ds : List D) : Option D := runF Tryz.prog z17c z17a 38 (bodyOf Tryz.f44) [.tmp 2] ds
theorem F_product_Check_eq (ds : List D) : F_product_Check ds = runG Tryz.prog z17c (z17h bigL) z17a 38 (bodyOf Tryz.f44) [.tmp 2] ds := runG_eq z17k _ ds
theorem C_product_Check (ds : List D) (r : D) (h : F_product_Check ds = some r) : Contract Tryz.prog gl 44 ds r := contract_of mix Tryz.func44 rfl (by kernel_rfl) (by kernel_rfl) (by decide) (call := z17c) ⟨callOf_ok z17b ⟨C_ident_IsName, C_product_Find, C_product_checkNumbers, trivial⟩, callOfE_ok noE trivial⟩ h
attribute [simp] Tryz.f212
def z18a : Ann := ⟨[2], [], [], [], [], some [2], [], [], [(64, 0, 92, 2)], []⟩
@[simp] theorem z18a_draws : z18a.draws = [] := rfl
@[simp] theorem z18a_exits : z18a.exits = [] := rfl
@[simp] theorem z18a_rets : z18a.rets = some [2] := rfl
@[simp] theorem z18a_keep : z18a.keep = [2] := rfl
@[simp] theorem z18a_cond : z18a.cond = [] := rfl
@[simp] theorem z18a_rows : z18a.rows = [] := rfl
@[simp] theorem z18a_loops : z18a.loops = [] := rfl
@[simp] theorem z18a_ecalls : z18a.ecalls = [] := rfl
@[simp] theorem z18a_crows : z18a.crows = [(64, 0, 92, 2)] := rfl
@[simp] theorem z18a_tails : z18a.tails = [] := rfl
@[simp] def z18b : PL := []
def z18c : CT := ⟨callOf (z18b ), callOfE noE, gl⟩
@[simp] theorem z18c_p (f : FuncId) (ds : List D) : z18c.p f ds = callOf (z18b ) f ds := Eq.trans rfl rfl
@[simp] theorem z18c_e (f : FuncId) (hs : List (Nat × O)) (ds : List D) : z18c.e f hs ds = callOfE noE f hs ds := Eq.trans rfl rfl
@[simp] theorem z18c_g (g : Nat) : z18c.g g = gl g := Eq.trans rfl rfl
def L_ident_isCapital (i n : Nat) (s : St) : OS := atN Tryz.prog z18c z18a 9 (bodyOf Tryz.f212) i n s
def z18h (n i : Nat) (s : St) : OS := atH Tryz.prog z18c z18a 9 (bodyOf Tryz.f212) n i s
@[simp] theorem z18h_eq (n i : Nat) (s : St) : z18h n i s = L_ident_isCapital i n (headOf (z18a.loops.lookup i) s) := rfl
def R_ident_isCapital (i : Nat) (s : St) : OS := stepL Tryz.prog z18c z18a 9 (bodyOf Tryz.f212) i s
theorem z18k : okLoops (bodyOf Tryz.f212) = true := by kernel_rfl
def F_ident_isCapital (ds : List D) : Option D := runF Tryz.prog z18c z18a 9 (bodyOf Tryz.f212) [.tmp 2] ds
theorem F_ident_isCapital_eq (ds : List D) : F_ident_isCapital ds = runG Tryz.prog z18c (z18h bigL) z18a 9 (bodyOf Tryz.f212) [.tmp 2] ds := runG_eq z18k _ ds
theorem C_ident_isCapital (ds : List D) (r : D) (h : F_ident_isCapital ds = some r) : Contract Tryz.prog gl 212 ds r := contract_of mix Tryz.func212 rfl (by kernel_rfl) (by kernel_rfl) (by decide) (call := z18c) ⟨callOf_ok z18b trivial, callOfE_ok noE trivial⟩ h
attribute [simp] Tryz.f192
def z19a : Ann := ⟨[0], [], [], [], [], some [0], [], [], [(64, 0, 92, 2)], []⟩
@[simp] theorem z19a_draws : z19a.draws = [] := rfl
@[simp] theorem z19a_exits : z19a.exits = [] := rfl
@[simp] theorem z19a_rets : z19a.rets = some [0] := rfl
@[simp] theorem z19a_keep : z19a.keep = [0] := rfl
@[simp] theorem z19a_cond : z19a.cond = [] := rfl
@[simp] theorem z19a_rows : z19a.rows = [] := rfl
@[simp] theorem z19a_loops : z19a.loops = [] := rfl
@[simp] theorem z19a_ecalls : z19a.ecalls = [] := rfl
@[simp] theorem z19a_crows : z19a.crows = [(64, 0, 92, 2)] := rfl
@[simp] theorem z19a_tails : z19a.tails = [] := rfl
@[simp] def z19b : PL := [(149, F_ident_isDigit), (212, F_ident_isCapital)]
def z19c : CT := ⟨callOf (z19b ), callOfE noE, gl⟩
@[simp] theorem z19c_p (f : FuncId) (ds : List D) : z19c.p f ds = callOf (z19b ) f ds := Eq.trans rfl rfl
@[simp] theorem z19c_e (f : FuncId) (hs : List (Nat × O)) (ds : List D) : z19c.e f hs ds = callOfE noE f hs ds := Eq.trans rfl rfl
@[simp] theorem z19c_g (g : Nat) : z19c.g g = gl g := Eq.trans rfl rfl
def L_ident_parts (i n : Nat) (s : St) : OS := atN Tryz.prog z19c z19a 4 (bodyOf Tryz.f192) i n s
def z19h (n i : Nat) (s : St) : OS := atH Tryz.prog z19c z19a 4 (bodyOf Tryz.f192) n i s
@[simp] theorem z19h_eq (n i : Nat) (s : St) : z19h n i s = L_ident_parts i n (headOf (z19a.loops.lookup i) s) := rfl
def R_ident_parts (i : Nat) (s : St) : OS := stepL Tryz.prog z19c z19a 4 (bodyOf Tryz.f192) i s
theorem z19k : okLoops (bodyOf Tryz.f192) = true := by kernel_rfl
def F_ident_parts (ds : List D) : Option D := runF Tryz.prog z19c z19a 4 (bodyOf Tryz.f192) [.tmp 0] ds
theorem F_ident_parts_eq (ds : List D) : F_ident_parts ds = runG Tryz.prog z19c (z19h bigL) z19a 4 (bodyOf Tryz.f192) [.tmp 0] ds := runG_eq z19k _ ds
theorem C_ident_parts (ds : List D) (r : D) (h : F_ident_parts ds = some r) : Contract Tryz.prog gl 192 ds r := contract_of mix Tryz.func192 rfl (by kernel_rfl) (by kernel_rfl) (by decide) (call := z19c) ⟨callOf_ok z19b ⟨C_ident_isDigit, C_ident_isCapital, trivial⟩, callOfE_ok noE trivial⟩ h
attribute [simp] Tryz.f193
def z20a : Ann := ⟨[0, 2, 3, 4], [8], [], [(3, [0, 3, 4])], [(0, [3]), (1, [0, 3, 4])], some [2], [], [], [(64, 0, 92, 2)], []⟩
@[simp] theorem z20a_draws : z20a.draws = [] := rfl
@[simp] theorem z20a_exits : z20a.exits = [(0, [3]), (1, [0, 3, 4])] := rfl
@[simp] theorem z20a_rets : z20a.rets = some [2] := rfl
@[simp] theorem z20a_keep : z20a.keep = [0, 2, 3, 4] := rfl
@[simp] theorem z20a_cond : z20a.cond = [8] := rfl
@[simp] theorem z20a_rows : z20a.rows = [] := rfl
@[simp] theorem z20a_loops : z20a.loops = [(3, [0, 3, 4])] := rfl
@[simp] theorem z20a_ecalls : z20a.ecalls = [] := rfl
@[simp] theorem z20a_crows : z20a.crows = [(64, 0, 92, 2)] := rfl
@[simp] theorem z20a_tails : z20a.tails = [] := rfl
@[simp] def z20b : PL := []
def z20c : CT := ⟨callOf (z20b ), callOfE noE, gl⟩
@[simp] theorem z20c_p (f : FuncId) (ds : List D) : z20c.p f ds = callOf (z20b ) f ds := Eq.trans rfl rfl
@[simp] theorem z20c_e (f : FuncId) (hs : List (Nat × O)) (ds : List D) : z20c.e f hs ds = callOfE noE f hs ds := Eq.trans rfl rfl
@[simp] theorem z20c_g (g : Nat) : z20c.g g = gl g := Eq.trans rfl rfl
def L_ident_Letter (i n : Nat) (s : St) : OS := atN Tryz.prog z20c z20a 24 (bodyOf Tryz.f193) i n s
def z20h (n i : Nat) (s : St) : OS := atH Tryz.prog z20c z20a 24 (bodyOf Tryz.f193) n i s
@[simp] theorem z20h_eq (n i : Nat) (s : St) : z20h n i s = L_ident_Letter i n (headOf (z20a.loops.lookup i) s) := rfl
def R_ident_Letter (i : Nat) (s : St) : OS := stepL Tryz.prog z20c z20a 24 (bodyOf Tryz.f193) i s
theorem z20k : okLoops (bodyOf Tryz.f193) = true := by kernel_rfl
theorem L_ident_Letter_zero (i : Nat) (s : St) : L_ident_Letter i 0 s = none := rfl
theorem L_ident_Letter_succ (i n : Nat) (s : St) : L_ident_Letter i (n + 1) s = andThen (R_ident_Letter i s) (z20h n i) := atN_succ z20k i n s
theorem R_ident_Letter_eq (i : Nat) (s : St) : R_ident_Letter i s = runS Tryz.prog z20c (z20h bigL) z20a 24 (loopAt (bodyOf Tryz.f193) i) s := rfl
def F_ident_Letter (ds : List D) : Option D := runF Tryz.prog z20c z20a 24 (bodyOf Tryz.f193) [.tmp 2] ds
theorem F_ident_Letter_eq (ds : List D) : F_ident_Letter ds = runG Tryz.prog z20c (z20h bigL) z20a 24 (bodyOf Tryz.f193) [.tmp 2] ds := runG_eq z20k _ ds
theorem C_ident_Letter (ds : List D) (r : D) (h : F_ident_Letter ds = some r) : Contract Tryz.prog gl 193 ds r := contract_of mix Tryz.func193 rfl (by kernel_rfl) (by kernel_rfl) (by decide) (call := z20c) ⟨callOf_ok z20b trivial, callOfE_ok noE trivial⟩ h
attribute [simp] Tryz.f150
def z21a : Ann := ⟨[0, 2, 3, 4, 6, 7, 8, 9, 13, 14, 15], [12, 16, 24, 33, 42, 44], [], [(4, [0, 13, 14, 15]), (7, [0, 6, 7, 13, 14, 15]), (16, [0, 8, 9])], [(0, [0]), (1, [0, 13, 14, 15]), (2, [0, 13, 14, 15]), (3, [0, 6, 7, 13, 14, 15]), (4, [0, 8]), (5, [0, 8, 9])], some [2, 3, 4], [(9, 5), (10, 4), (12, 5)], [], [(64, 0, 92, 2)], []⟩
@[simp] theorem z21a_draws : z21a.draws = [(9, 5), (10, 4), (12, 5)] := rfl
@[simp] theorem z21a_exits : z21a.exits = [(0, [0]), (1, [0, 13, 14, 15]), (2, [0, 13, 14, 15]), (3, [0, 6, 7, 13, 14, 15]), (4, [0, 8]), (5, [0, 8, 9])] := rfl
@[simp] theorem z21a_rets : z21a.rets = some [2, 3, 4] := rfl
@[simp] theorem z21a_keep : z21a.keep = [0, 2, 3, 4, 6, 7, 8, 9, 13, 14, 15] := rfl
@[simp] theorem z21a_cond : z21a.cond = [12, 16, 24, 33, 42, 44] := rfl
@[simp] theorem z21a_rows : z21a.rows = [] := rfl
@[simp] theorem z21a_loops : z21a.loops = [(4, [0, 13, 14, 15]), (7, [0, 6, 7, 13, 14, 15]), (16, [0, 8, 9])] := rfl
@[simp] theorem z21a_ecalls : z21a.ecalls = [] := rfl
@[simp] theorem z21a_crows : z21a.crows = [(64, 0, 92, 2)] := rfl
@[simp] theorem z21a_tails : z21a.tails = [] := rfl
@[simp] def z21b : PL := [(149, F_ident_isDigit), (192, F_ident_parts), (193, F_ident_Letter), (212, F_ident_isCapital)]
def z21c : CT := ⟨callOf (z21b ), callOfE noE, gl⟩
@[simp] theorem z21c_p (f : FuncId) (ds : List D) : z21c.p f ds = callOf (z21b ) f ds := Eq.trans rfl rfl
@[simp] theorem z21c_e (f : FuncId) (hs : List (Nat × O)) (ds : List D) : z21c.e f hs ds = callOfE noE f hs ds := Eq.trans rfl rfl
@[simp] theorem z21c_g (g : Nat) : z21c.g g = gl g := Eq.trans rfl rfl
def L_ident_Split (i n : Nat) (s : St) : OS := atN Tryz.prog z21c z21a 58 (bodyOf Tryz.f150) i n s
def z21h (n i : Nat) (s : St) : OS := atH Tryz.prog z21c z21a 58 (bodyOf Tryz.f150) n i s
@[simp] theorem z21h_eq (n i : Nat) (s : St) : z21h n i s = L_ident_Split i n (headOf (z21a.loops.lookup i) s) := rfl
def R_ident_Split (i : Nat) (s : St) : OS := stepL Tryz.prog z21c z21a 58 (bodyOf Tryz.f150) i s
theorem z21k : okLoops (bodyOf Tryz.f150) = true := by kernel_rfl
theorem L_ident_Split_zero (i : Nat) (s : St) : L_ident_Split i 0 s = none := rfl
theorem L_ident_Split_succ (i n : Nat) (s : St) : L_ident_Split i (n + 1) s = andThen (R_ident_Split i s) (z21h n i) := atN_succ z21k i n s
theorem R_ident_Split_eq (i : Nat) (s : St) : R_ident_Split i s = runS Tryz.prog z21c (z21h bigL) z21a 58 (loopAt (bodyOf Tryz.f150) i) s := rfl
def F_ident_Split (ds : List D) : Option D := runF Tryz.prog z21c z21a 58 (bodyOf Tryz.f150) [.tmp 2, .tmp 3, .tmp 4] ds
theorem F_ident_Split_eq (ds : List D) : F_ident_Split ds = runG Tryz.prog z21c (z21h bigL) z21a 58 (bodyOf Tryz.f150) [.tmp 2, .tmp 3, .tmp 4] ds := runG_eq z21k _ ds
theorem C_ident_Split (ds : List D) (r : D) (h : F_ident_Split ds = some r) : Contract Tryz.prog gl 150 ds r := contract_of mix Tryz.func150 rfl (by kernel_rfl) (by kernel_rfl) (by decide) (call := z21c) ⟨callOf_ok z21b ⟨C_ident_isDigit, C_ident_parts, C_ident_Letter, C_ident_isCapital, trivial⟩, callOfE_ok noE trivial⟩ h
attribute [simp] Tryz.f89
def z22a : Ann := ⟨[4, 5, 7], [], [], [], [], some [4], [], [], [(64, 0, 92, 2)], []⟩
@[simp] theorem z22a_draws : z22a.draws = [] := rfl
@[simp] theorem z22a_exits : z22a.exits = [] := rfl
@[simp] theorem z22a_rets : z22a.rets = some [4] := rfl
@[simp] theorem z22a_keep : z22a.keep = [4, 5, 7] := rfl
@[simp] theorem z22a_cond : z22a.cond = [] := rfl
@[simp] theorem z22a_rows : z22a.rows = [] := rfl
@[simp] theorem z22a_loops : z22a.loops = [] := rfl
@[simp] theorem z22a_ecalls : z22a.ecalls = [] := rfl
@[simp] theorem z22a_crows : z22a.crows = [(64, 0, 92, 2)] := rfl
@[simp] theorem z22a_tails : z22a.tails = [] := rfl
@[simp] def z22b : PL := [(150, F_ident_Split)]
def z22c : CT := ⟨callOf (z22b ), callOfE noE, gl⟩
@[simp] theorem z22c_p (f : FuncId) (ds : List D) : z22c.p f ds = callOf (z22b ) f ds := Eq.trans rfl rfl
@[simp] theorem z22c_e (f : FuncId) (hs : List (Nat × O)) (ds : List D) : z22c.e f hs ds = callOfE noE f hs ds := Eq.trans rfl rfl
@[simp] theorem z22c_g (g : Nat) : z22c.g g = gl g := Eq.trans rfl rfl
def L_ident_Is (i n : Nat) (s : St) : OS := atN Tryz.prog z22c z22a 21 (bodyOf Tryz.f89) i n s
def z22h (n i : Nat) (s : St) : OS := atH Tryz.prog z22c z22a 21 (bodyOf Tryz.f89) n i s
@[simp] theorem z22h_eq (n i : Nat) (s : St) : z22h n i s = L_ident_Is i n (headOf (z22a.loops.lookup i) s) := rfl
def R_ident_Is (i : Nat) (s : St) : OS := stepL Tryz.prog z22c z22a 21 (bodyOf Tryz.f89) i s
theorem z22k : okLoops (bodyOf Tryz.f89) = true := by kernel_rfl
def F_ident_Is (ds : List D) : Option D := runF Tryz.prog z22c z22a 21 (bodyOf Tryz.f89) [.tmp 4] ds
theorem F_ident_Is_eq (ds : List D) : F_ident_Is ds = runG Tryz.prog z22c (z22h bigL) z22a 21 (bodyOf Tryz.f89) [.tmp 4] ds := runG_eq z22k _ ds
theorem C_ident_Is (ds : List D) (r : D) (h : F_ident_Is ds = some r) : Contract Tryz.prog gl 89 ds r := contract_of mix Tryz.func89 rfl (by kernel_rfl) (by kernel_rfl) (by decide) (call := z22c) ⟨callOf_ok z22b ⟨C_ident_Split, trivial⟩, callOfE_ok noE trivial⟩ h
attribute [simp] Tryz.f101
def z23a : Ann := ⟨[1, 2], [], [], [], [], some [2], [], [], [(64, 0, 92, 2)], []⟩
@[simp] theorem z23a_draws : z23a.draws = [] := rfl
@[simp] theorem z23a_exits : z23a.exits = [] := rfl
@[simp] theorem z23a_rets : z23a.rets = some [2] := rfl
@[simp] theorem z23a_keep : z23a.keep = [1, 2] := rfl
@[simp] theorem z23a_cond : z23a.cond = [] := rfl
@[simp] theorem z23a_rows : z23a.rows = [] := rfl
@[simp] theorem z23a_loops : z23a.loops = [] := rfl
@[simp] theorem z23a_ecalls : z23a.ecalls = [] := rfl
@[simp] theorem z23a_crows : z23a.crows = [(64, 0, 92, 2)] := rfl
@[simp] theorem z23a_tails : z23a.tails = [] := rfl
@[simp] def z23b : PL := []
def z23c : CT := ⟨callOf (z23b ), callOfE noE, gl⟩
@[simp] theorem z23c_p (f : FuncId) (ds : List D) : z23c.p f ds = callOf (z23b ) f ds := Eq.trans rfl rfl
@[simp] theorem z23c_e (f : FuncId) (hs : List (Nat × O)) (ds : List D) : z23c.e f hs ds = callOfE noE f hs ds := Eq.trans rfl rfl
@[simp] theorem z23c_g (g : Nat) : z23c.g g = gl g := Eq.trans rfl rfl
def L_board_isAlong (i n : Nat) (s : St) : OS := atN Tryz.prog z23c z23a 18 (bodyOf Tryz.f101) i n s
def z23h (n i : Nat) (s : St) : OS := atH Tryz.prog z23c z23a 18 (bodyOf Tryz.f101) n i s
@[simp] theorem z23h_eq (n i : Nat) (s : St) : z23h n i s = L_board_isAlong i n (headOf (z23a.loops.lookup i) s) := rfl
def R_board_isAlong (i : Nat) (s : St) : OS := stepL Tryz.prog z23c z23a 18 (bodyOf Tryz.f101) i s
theorem z23k : okLoops (bodyOf Tryz.f101) = true := by kernel_rfl
def F_board_isAlong (ds : List D) : Option D := runF Tryz.prog z23c z23a 18 (bodyOf Tryz.f101) [.tmp 2] ds
theorem F_board_isAlong_eq (ds : List D) : F_board_isAlong ds = runG Tryz.prog z23c (z23h bigL) z23a 18 (bodyOf Tryz.f101) [.tmp 2] ds := runG_eq z23k _ ds
theorem C_board_isAlong (ds : List D) (r : D) (h : F_board_isAlong ds = some r) : Contract Tryz.prog gl 101 ds r := contract_of mix Tryz.func101 rfl (by kernel_rfl) (by kernel_rfl) (by decide) (call := z23c) ⟨callOf_ok z23b trivial, callOfE_ok noE trivial⟩ h
attribute [simp] Tryz.f90
def z24a : Ann := ⟨[1, 2, 4, 9, 10], [11, 27], [], [(2, [1, 9, 10])], [(0, [1]), (1, [1, 9, 10])], some [2], [], [], [(64, 0, 92, 2)], []⟩
@[simp] theorem z24a_draws : z24a.draws = [] := rfl
@[simp] theorem z24a_exits : z24a.exits = [(0, [1]), (1, [1, 9, 10])] := rfl
@[simp] theorem z24a_rets : z24a.rets = some [2] := rfl
@[simp] theorem z24a_keep : z24a.keep = [1, 2, 4, 9, 10] := rfl
@[simp] theorem z24a_cond : z24a.cond = [11, 27] := rfl
@[simp] theorem z24a_rows : z24a.rows = [] := rfl
@[simp] theorem z24a_loops : z24a.loops = [(2, [1, 9, 10])] := rfl
@[simp] theorem z24a_ecalls : z24a.ecalls = [] := rfl
@[simp] theorem z24a_crows : z24a.crows = [(64, 0, 92, 2)] := rfl
@[simp] theorem z24a_tails : z24a.tails = [] := rfl
@[simp] def z24b : PL := [(101, F_board_isAlong)]
def z24c : CT := ⟨callOf (z24b ), callOfE noE, gl⟩
@[simp] theorem z24c_p (f : FuncId) (ds : List D) : z24c.p f ds = callOf (z24b ) f ds := Eq.trans rfl rfl
@[simp] theorem z24c_e (f : FuncId) (hs : List (Nat × O)) (ds : List D) : z24c.e f hs ds = callOfE noE f hs ds := Eq.trans rfl rfl
@[simp] theorem z24c_g (g : Nat) : z24c.g g = gl g := Eq.trans rfl rfl
def L_board_isBox (i n : Nat) (s : St) : OS := atN Tryz.prog z24c z24a 32 (bodyOf Tryz.f90) i n s
def z24h (n i : Nat) (s : St) : OS := atH Tryz.prog z24c z24a 32 (bodyOf Tryz.f90) n i s
@[simp] theorem z24h_eq (n i : Nat) (s : St) : z24h n i s = L_board_isBox i n (headOf (z24a.loops.lookup i) s) := rfl
def R_board_isBox (i : Nat) (s : St) : OS := stepL Tryz.prog z24c z24a 32 (bodyOf Tryz.f90) i s
theorem z24k : okLoops (bodyOf Tryz.f90) = true := by kernel_rfl
theorem L_board_isBox_zero (i : Nat) (s : St) : L_board_isBox i 0 s = none := rfl
theorem L_board_isBox_succ (i n : Nat) (s : St) : L_board_isBox i (n + 1) s = andThen (R_board_isBox i s) (z24h n i) := atN_succ z24k i n s
theorem R_board_isBox_eq (i : Nat) (s : St) : R_board_isBox i s = runS Tryz.prog z24c (z24h bigL) z24a 32 (loopAt (bodyOf Tryz.f90) i) s := rfl
def F_board_isBox (ds : List D) : Option D := runF Tryz.prog z24c z24a 32 (bodyOf Tryz.f90) [.tmp 2] ds
theorem F_board_isBox_eq (ds : List D) : F_board_isBox ds = runG Tryz.prog z24c (z24h bigL) z24a 32 (bodyOf Tryz.f90) [.tmp 2] ds := runG_eq z24k _ ds
theorem C_board_isBox (ds : List D) (r : D) (h : F_board_isBox ds = some r) : Contract Tryz.prog gl 90 ds r := contract_of mix Tryz.func90 rfl (by kernel_rfl) (by kernel_rfl) (by decide) (call := z24c) ⟨callOf_ok z24b ⟨C_board_isAlong, trivial⟩, callOfE_ok noE trivial⟩ h
attribute [simp] Tryz.f91
def z25a : Ann := ⟨[1, 2], [], [], [], [], some [2], [], [], [(64, 0, 92, 2)], []⟩
@[simp] theorem z25a_draws : z25a.draws = [] := rfl
@[simp] theorem z25a_exits : z25a.exits = [] := rfl
@[simp] theorem z25a_rets : z25a.rets = some [2] := rfl
@[simp] theorem z25a_keep : z25a.keep = [1, 2] := rfl
@[simp] theorem z25a_cond : z25a.cond = [] := rfl
@[simp] theorem z25a_rows : z25a.rows = [] := rfl
@[simp] theorem z25a_loops : z25a.loops = [] := rfl
@[simp] theorem z25a_ecalls : z25a.ecalls = [] := rfl
@[simp] theorem z25a_crows : z25a.crows = [(64, 0, 92, 2)] := rfl
@[simp] theorem z25a_tails : z25a.tails = [] := rfl
@[simp] def z25b : PL := []
def z25c : CT := ⟨callOf (z25b ), callOfE noE, gl⟩
@[simp] theorem z25c_p (f : FuncId) (ds : List D) : z25c.p f ds = callOf (z25b ) f ds := Eq.trans rfl rfl
@[simp] theorem z25c_e (f : FuncId) (hs : List (Nat × O)) (ds : List D) : z25c.e f hs ds = callOfE noE f hs ds := Eq.trans rfl rfl
@[simp] theorem z25c_g (g : Nat) : z25c.g g = gl g := Eq.trans rfl rfl
def L_board_length (i n : Nat) (s : St) : OS := atN Tryz.prog z25c z25a 8 (bodyOf Tryz.f91) i n s
def z25h (n i : Nat) (s : St) : OS := atH Tryz.prog z25c z25a 8 (bodyOf Tryz.f91) n i s
@[simp] theorem z25h_eq (n i : Nat) (s : St) : z25h n i s = L_board_length i n (headOf (z25a.loops.lookup i) s) := rfl
def R_board_length (i : Nat) (s : St) : OS := stepL Tryz.prog z25c z25a 8 (bodyOf Tryz.f91) i s
theorem z25k : okLoops (bodyOf Tryz.f91) = true := by kernel_rfl
def F_board_length (ds : List D) : Option D := runF Tryz.prog z25c z25a 8 (bodyOf Tryz.f91) [.tmp 2] ds
theorem F_board_length_eq (ds : List D) : F_board_length ds = runG Tryz.prog z25c (z25h bigL) z25a 8 (bodyOf Tryz.f91) [.tmp 2] ds := runG_eq z25k _ ds
theorem C_board_length (ds : List D) (r : D) (h : F_board_length ds = some r) : Contract Tryz.prog gl 91 ds r := contract_of mix Tryz.func91 rfl (by kernel_rfl) (by kernel_rfl) (by decide) (call := z25c) ⟨callOf_ok z25b trivial, callOfE_ok noE trivial⟩ h
attribute [simp] Tryz.f153
def z26a : Ann := ⟨[0, 4, 5, 7, 8], [9, 16], [], [(2, [0, 1, 7, 8])], [(0, []), (1, [0, 1, 7, 8])], some [4], [], [], [(64, 0, 92, 2)], []⟩
@[simp] theorem z26a_draws : z26a.draws = [] := rfl
@[simp] theorem z26a_exits : z26a.exits = [(0, []), (1, [0, 1, 7, 8])] := rfl
@[simp] theorem z26a_rets : z26a.rets = some [4] := rfl
@[simp] theorem z26a_keep : z26a.keep = [0, 4, 5, 7, 8] := rfl
@[simp] theorem z26a_cond : z26a.cond = [9, 16] := rfl
@[simp] theorem z26a_rows : z26a.rows = [] := rfl
@[simp] theorem z26a_loops : z26a.loops = [(2, [0, 1, 7, 8])] := rfl
@[simp] theorem z26a_ecalls : z26a.ecalls = [] := rfl
@[simp] theorem z26a_crows : z26a.crows = [(64, 0, 92, 2)] := rfl
@[simp] theorem z26a_tails : z26a.tails = [] := rfl
@[simp] def z26b : PL := []
def z26c : CT := ⟨callOf (z26b ), callOfE noE, gl⟩
@[simp] theorem z26c_p (f : FuncId) (ds : List D) : z26c.p f ds = callOf (z26b ) f ds := Eq.trans rfl rfl
@[simp] theorem z26c_e (f : FuncId) (hs : List (Nat × O)) (ds : List D) : z26c.e f hs ds = callOfE noE f hs ds := Eq.trans rfl rfl
@[simp] theorem z26c_g (g : Nat) : z26c.g g = gl g := Eq.trans rfl rfl
def L_slices_Index_int_int (i n : Nat) (s : St) : OS := atN Tryz.prog z26c z26a 19 (bodyOf Tryz.f153) i n s
def z26h (n i : Nat) (s : St) : OS := atH Tryz.prog z26c z26a 19 (bodyOf Tryz.f153) n i s
@[simp] theorem z26h_eq (n i : Nat) (s : St) : z26h n i s = L_slices_Index_int_int i n (headOf (z26a.loops.lookup i) s) := rfl
def R_slices_Index_int_int (i : Nat) (s : St) : OS := stepL Tryz.prog z26c z26a 19 (bodyOf Tryz.f153) i s
theorem z26k : okLoops (bodyOf Tryz.f153) = true := by kernel_rfl
theorem L_slices_Index_int_int_zero (i : Nat) (s : St) : L_slices_Index_int_int i 0 s = none := rfl
theorem L_slices_Index_int_int_succ (i n : Nat) (s : St) : L_slices_Index_int_int i (n + 1) s = andThen (R_slices_Index_int_int i s) (z26h n i) := atN_succ z26k i n s
theorem R_slices_Index_int_int_eq (i : Nat) (s : St) : R_slices_Index_int_int i s = runS Tryz.prog z26c (z26h bigL) z26a 19 (loopAt (bodyOf Tryz.f153) i) s := rfl
def F_slices_Index_int_int (ds : List D) : Option D := runF Tryz.prog z26c z26a 19 (bodyOf Tryz.f153) [.tmp 4] ds
theorem F_slices_Index_int_int_eq (ds : List D) : F_slices_Index_int_int ds = runG Tryz.prog z26c (z26h bigL) z26a 19 (bodyOf Tryz.f153) [.tmp 4] ds := runG_eq z26k _ ds
theorem C_slices_Index_int_int (ds : List D) (r : D) (h : F_slices_Index_int_int ds = some r) : Contract Tryz.prog gl 153 ds r := contract_of mix Tryz.func153 rfl (by kernel_rfl) (by kernel_rfl) (by decide) (call := z26c) ⟨callOf_ok z26b trivial, callOfE_ok noE trivial⟩ h
attribute [simp] Tryz.f93
def z27a : Ann := ⟨[4], [], [], [], [], some [4], [], [], [(64, 0, 92, 2)], []⟩
@[simp] theorem z27a_draws : z27a.draws = [] := rfl
@[simp] theorem z27a_exits : z27a.exits = [] := rfl
@[simp] theorem z27a_rets : z27a.rets = some [4] := rfl
@[simp] theorem z27a_keep : z27a.keep = [4] := rfl
@[simp] theorem z27a_cond : z27a.cond = [] := rfl
@[simp] theorem z27a_rows : z27a.rows = [] := rfl
@[simp] theorem z27a_loops : z27a.loops = [] := rfl
@[simp] theorem z27a_ecalls : z27a.ecalls = [] := rfl
@[simp] theorem z27a_crows : z27a.crows = [(64, 0, 92, 2)] := rfl
@[simp] theorem z27a_tails : z27a.tails = [] := rfl
@[simp] def z27b : PL := [(153, F_slices_Index_int_int)]
def z27c : CT := ⟨callOf (z27b ), callOfE noE, gl⟩
@[simp] theorem z27c_p (f : FuncId) (ds : List D) : z27c.p f ds = callOf (z27b ) f ds := Eq.trans rfl rfl
@[simp] theorem z27c_e (f : FuncId) (hs : List (Nat × O)) (ds : List D) : z27c.e f hs ds = callOfE noE f hs ds := Eq.trans rfl rfl
@[simp] theorem z27c_g (g : Nat) : z27c.g g = gl g := Eq.trans rfl rfl
def L_slices_Contains_int_int (i n : Nat) (s : St) : OS := atN Tryz.prog z27c z27a 9 (bodyOf Tryz.f93) i n s
def z27h (n i : Nat) (s : St) : OS := atH Tryz.prog z27c z27a 9 (bodyOf Tryz.f93) n i s
@[simp] theorem z27h_eq (n i : Nat) (s : St) : z27h n i s = L_slices_Contains_int_int i n (headOf (z27a.loops.lookup i) s) := rfl
def R_slices_Contains_int_int (i : Nat) (s : St) : OS := stepL Tryz.prog z27c z27a 9 (bodyOf Tryz.f93) i s
theorem z27k : okLoops (bodyOf Tryz.f93) = true := by kernel_rfl
def F_slices_Contains_int_int (ds : List D) : Option D := runF Tryz.prog z27c z27a 9 (bodyOf Tryz.f93) [.tmp 4] ds
theorem F_slices_Contains_int_int_eq (ds : List D) : F_slices_Contains_int_int ds = runG Tryz.prog z27c (z27h bigL) z27a 9 (bodyOf Tryz.f93) [.tmp 4] ds := runG_eq z27k _ ds
theorem C_slices_Contains_int_int (ds : List D) (r : D) (h : F_slices_Contains_int_int ds = some r) : Contract Tryz.prog gl 93 ds r := contract_of mix Tryz.func93 rfl (by kernel_rfl) (by kernel_rfl) (by decide) (call := z27c) ⟨callOf_ok z27b ⟨C_slices_Index_int_int, trivial⟩, callOfE_ok noE trivial⟩ h
attribute [simp] Tryz.f104
def z28a : Ann := ⟨[1, 2], [], [], [], [], some [2], [], [], [(64, 0, 92, 2)], []⟩
@[simp] theorem z28a_draws : z28a.draws = [] := rfl
@[simp] theorem z28a_exits : z28a.exits = [] := rfl
@[simp] theorem z28a_rets : z28a.rets = some [2] := rfl
@[simp] theorem z28a_keep : z28a.keep = [1, 2] := rfl
@[simp] theorem z28a_cond : z28a.cond = [] := rfl
@[simp] theorem z28a_rows : z28a.rows = [] := rfl
@[simp] theorem z28a_loops : z28a.loops = [] := rfl
@[simp] theorem z28a_ecalls : z28a.ecalls = [] := rfl
@[simp] theorem z28a_crows : z28a.crows = [(64, 0, 92, 2)] := rfl
@[simp] theorem z28a_tails : z28a.tails = [] := rfl
@[simp] def z28b : PL := []
def z28c : CT := ⟨callOf (z28b ), callOfE noE, gl⟩
@[simp] theorem z28c_p (f : FuncId) (ds : List D) : z28c.p f ds = callOf (z28b ) f ds := Eq.trans rfl rfl
@[simp] theorem z28c_e (f : FuncId) (hs : List (Nat × O)) (ds : List D) : z28c.e f hs ds = callOfE noE f hs ds := Eq.trans rfl rfl
@[simp] theorem z28c_g (g : Nat) : z28c.g g = gl g := Eq.trans rfl rfl
def L_defect_isEmpty (i n : Nat) (s : St) : OS := atN Tryz.prog z28c z28a 8 (bodyOf Tryz.f104) i n s
def z28h (n i : Nat) (s : St) : OS := atH Tryz.prog z28c z28a 8 (bodyOf Tryz.f104) n i s
@[simp] theorem z28h_eq (n i : Nat) (s : St) : z28h n i s = L_defect_isEmpty i n (headOf (z28a.loops.lookup i) s) := rfl
def R_defect_isEmpty (i : Nat) (s : St) : OS := stepL Tryz.prog z28c z28a 8 (bodyOf Tryz.f104) i s
theorem z28k : okLoops (bodyOf Tryz.f104) = true := by kernel_rfl
def F_defect_isEmpty (ds : List D) : Option D := runF Tryz.prog z28c z28a 8 (bodyOf Tryz.f104) [.tmp 2] ds
theorem F_defect_isEmpty_eq (ds : List D) : F_defect_isEmpty ds = runG Tryz.prog z28c (z28h bigL) z28a 8 (bodyOf Tryz.f104) [.tmp 2] ds := runG_eq z28k _ ds
theorem C_defect_isEmpty (ds : List D) (r : D) (h : F_defect_isEmpty ds = some r) : Contract Tryz.prog gl 104 ds r := contract_of mix Tryz.func104 rfl (by kernel_rfl) (by kernel_rfl) (by decide) (call := z28c) ⟨callOf_ok z28b trivial, callOfE_ok noE trivial⟩ h
attribute [simp] Tryz.f194
def z29a : Ann := ⟨[3, 6], [], [], [], [], some [6], [], [], [(64, 0, 92, 2)], []⟩
@[simp] theorem z29a_draws : z29a.draws = [] := rfl
@[simp] theorem z29a_exits : z29a.exits = [] := rfl
@[simp] theorem z29a_rets : z29a.rets = some [6] := rfl
@[simp] theorem z29a_keep : z29a.keep = [3, 6] := rfl
@[simp] theorem z29a_cond : z29a.cond = [] := rfl
@[simp] theorem z29a_rows : z29a.rows = [] := rfl
@[simp] theorem z29a_loops : z29a.loops = [] := rfl
@[simp] theorem z29a_ecalls : z29a.ecalls = [] := rfl
@[simp] theorem z29a_crows : z29a.crows = [(64, 0, 92, 2)] := rfl
@[simp] theorem z29a_tails : z29a.tails = [] := rfl
@[simp] def z29b : PL := []
def z29c : CT := ⟨callOf (z29b ), callOfE noE, gl⟩
@[simp] theorem z29c_p (f : FuncId) (ds : List D) : z29c.p f ds = callOf (z29b ) f ds := Eq.trans rfl rfl
@[simp] theorem z29c_e (f : FuncId) (hs : List (Nat × O)) (ds : List D) : z29c.e f hs ds = callOfE noE f hs ds := Eq.trans rfl rfl
@[simp] theorem z29c_g (g : Nat) : z29c.g g = gl g := Eq.trans rfl rfl
def L_defect_inside (i n : Nat) (s : St) : OS := atN Tryz.prog z29c z29a 23 (bodyOf Tryz.f194) i n s
def z29h (n i : Nat) (s : St) : OS := atH Tryz.prog z29c z29a 23 (bodyOf Tryz.f194) n i s
@[simp] theorem z29h_eq (n i : Nat) (s : St) : z29h n i s = L_defect_inside i n (headOf (z29a.loops.lookup i) s) := rfl
def R_defect_inside (i : Nat) (s : St) : OS := stepL Tryz.prog z29c z29a 23 (bodyOf Tryz.f194) i s
theorem z29k : okLoops (bodyOf Tryz.f194) = true := by kernel_rfl
def F_defect_inside (ds : List D) : Option D := runF Tryz.prog z29c z29a 23 (bodyOf Tryz.f194) [.tmp 6] ds
theorem F_defect_inside_eq (ds : List D) : F_defect_inside ds = runG Tryz.prog z29c (z29h bigL) z29a 23 (bodyOf Tryz.f194) [.tmp 6] ds := runG_eq z29k _ ds
theorem C_defect_inside (ds : List D) (r : D) (h : F_defect_inside ds = some r) : Contract Tryz.prog gl 194 ds r := contract_of mix Tryz.func194 rfl (by kernel_rfl) (by kernel_rfl) (by decide) (call := z29c) ⟨callOf_ok z29b trivial, callOfE_ok noE trivial⟩ h
attribute [simp] Tryz.f154
def z30a : Ann := ⟨[1, 2, 3], [6, 15, 29], [], [], [(0, [])], some [2], [], [], [(64, 0, 92, 2)], []⟩
@[simp] theorem z30a_draws : z30a.draws = [] := rfl
@[simp] theorem z30a_exits : z30a.exits = [(0, [])] := rfl
@[simp] theorem z30a_rets : z30a.rets = some [2] := rfl
@[simp] theorem z30a_keep : z30a.keep = [1, 2, 3] := rfl
@[simp] theorem z30a_cond : z30a.cond = [6, 15, 29] := rfl
@[simp] theorem z30a_rows : z30a.rows = [] := rfl
@[simp] theorem z30a_loops : z30a.loops = [] := rfl
@[simp] theorem z30a_ecalls : z30a.ecalls = [] := rfl
@[simp] theorem z30a_crows : z30a.crows = [(64, 0, 92, 2)] := rfl
@[simp] theorem z30a_tails : z30a.tails = [] := rfl
@[simp] def z30b : PL := [(104, F_defect_isEmpty), (194, F_defect_inside)]
def z30c : CT := ⟨callOf (z30b ), callOfE noE, gl⟩
@[simp] theorem z30c_p (f : FuncId) (ds : List D) : z30c.p f ds = callOf (z30b ) f ds := Eq.trans rfl rfl
@[simp] theorem z30c_e (f : FuncId) (hs : List (Nat × O)) (ds : List D) : z30c.e f hs ds = callOfE noE f hs ds := Eq.trans rfl rfl
@[simp] theorem z30c_g (g : Nat) : z30c.g g = gl g := Eq.trans rfl rfl
def L_defect_check (i n : Nat) (s : St) : OS := atN Tryz.prog z30c z30a 46 (bodyOf Tryz.f154) i n s
def z30h (n i : Nat) (s : St) : OS := atH Tryz.prog z30c z30a 46 (bodyOf Tryz.f154) n i s
@[simp] theorem z30h_eq (n i : Nat) (s : St) : z30h n i s = L_defect_check i n (headOf (z30a.loops.lookup i) s) := rfl
def R_defect_check (i : Nat) (s : St) : OS := stepL Tryz.prog z30c z30a 46 (bodyOf Tryz.f154) i s
theorem z30k : okLoops (bodyOf Tryz.f154) = true := by kernel_rfl
def F_defect_check (ds : List D) : Option D := runF Tryz.prog z30c z30a 46 (bodyOf Tryz.f154) [.tmp 2] ds
theorem F_defect_check_eq (ds : List D) : F_defect_check ds = runG Tryz.prog z30c (z30h bigL) z30a 46 (bodyOf Tryz.f154) [.tmp 2] ds := runG_eq z30k _ ds
theorem C_defect_check (ds : List D) (r : D) (h : F_defect_check ds = some r) : Contract Tryz.prog gl 154 ds r := contract_of mix Tryz.func154 rfl (by kernel_rfl) (by kernel_rfl) (by decide) (call := z30c) ⟨callOf_ok z30b ⟨C_defect_isEmpty, C_defect_inside, trivial⟩, callOfE_ok noE trivial⟩ h
attribute [simp] Tryz.f94
def z31a : Ann := ⟨[0, 2, 4, 5, 9, 10, 11], [8, 12, 18], [], [(4, [9, 10, 11])], [(0, []), (1, [9, 10, 11])], some [2], [], [], [(64, 0, 92, 2)], []⟩
@[simp] theorem z31a_draws : z31a.draws = [] := rfl
@[simp] theorem z31a_exits : z31a.exits = [(0, []), (1, [9, 10, 11])] := rfl
@[simp] theorem z31a_rets : z31a.rets = some [2] := rfl
@[simp] theorem z31a_keep : z31a.keep = [0, 2, 4, 5, 9, 10, 11] := rfl
@[simp] theorem z31a_cond : z31a.cond = [8, 12, 18] := rfl
@[simp] theorem z31a_rows : z31a.rows = [] := rfl
@[simp] theorem z31a_loops : z31a.loops = [(4, [9, 10, 11])] := rfl
@[simp] theorem z31a_ecalls : z31a.ecalls = [] := rfl
@[simp] theorem z31a_crows : z31a.crows = [(64, 0, 92, 2)] := rfl
@[simp] theorem z31a_tails : z31a.tails = [] := rfl
@[simp] def z31b : PL := [(154, F_defect_check)]
def z31c : CT := ⟨callOf (z31b ), callOfE noE, gl⟩
@[simp] theorem z31c_p (f : FuncId) (ds : List D) : z31c.p f ds = callOf (z31b ) f ds := Eq.trans rfl rfl
@[simp] theorem z31c_e (f : FuncId) (hs : List (Nat × O)) (ds : List D) : z31c.e f hs ds = callOfE noE f hs ds := Eq.trans rfl rfl
@[simp] theorem z31c_g (g : Nat) : z31c.g g = gl g := Eq.trans rfl rfl
def L_defect_Check (i n : Nat) (s : St) : OS := atN Tryz.prog z31c z31a 21 (bodyOf Tryz.f94) i n s
def z31h (n i : Nat) (s : St) : OS := atH Tryz.prog z31c z31a 21 (bodyOf Tryz.f94) n i s
@[simp] theorem z31h_eq (n i : Nat) (s : St) : z31h n i s = L_defect_Check i n (headOf (z31a.loops.lookup i) s) := rfl
def R_defect_Check (i : Nat) (s : St) : OS := stepL Tryz.prog z31c z31a 21 (bodyOf Tryz.f94) i s
theorem z31k : okLoops (bodyOf Tryz.f94) = true := by kernel_rfl
theorem L_defect_Check_zero (i : Nat) (s : St) : L_defect_Check i 0 s = none := rfl
theorem L_defect_Check_succ (i n : Nat) (s : St) : L_defect_Check i (n + 1) s = andThen (R_defect_Check i s) (z31h n i) := atN_succ z31k i n s
theorem R_defect_Check_eq (i : Nat) (s : St) : R_defect_Check i s = runS Tryz.prog z31c (z31h bigL) z31a 21 (loopAt (bodyOf Tryz.f94) i) s := rfl
def F_defect_Check (ds : List D) : Option D := runF Tryz.prog z31c z31a 21 (bodyOf Tryz.f94) [.tmp 2] ds
theorem F_defect_Check_eq (ds : List D) : F_defect_Check ds = runG Tryz.prog z31c (z31h bigL) z31a 21 (bodyOf Tryz.f94) [.tmp 2] ds := runG_eq z31k _ ds
theorem C_defect_Check (ds : List D) (r : D) (h : F_defect_Check ds = some r) : Contract Tryz.prog gl 94 ds r := contract_of mix Tryz.func94 rfl (by kernel_rfl) (by kernel_rfl) (by decide) (call := z31c) ⟨callOf_ok z31b ⟨C_defect_check, trivial⟩, callOfE_ok noE trivial⟩ h
attribute [simp] Tryz.f95
def z32a : Ann := ⟨[2, 4], [], [], [], [], some [4], [], [], [(64, 0, 92, 2)], []⟩
@[simp] theorem z32a_draws : z32a.draws = [] := rfl
@[simp] theorem z32a_exits : z32a.exits = [] := rfl
@[simp] theorem z32a_rets : z32a.rets = some [4] := rfl
@[simp] theorem z32a_keep : z32a.keep = [2, 4] := rfl
@[simp] theorem z32a_cond : z32a.cond = [] := rfl
@[simp] theorem z32a_rows : z32a.rows = [] := rfl
@[simp] theorem z32a_loops : z32a.loops = [] := rfl
@[simp] theorem z32a_ecalls : z32a.ecalls = [] := rfl
@[simp] theorem z32a_crows : z32a.crows = [(64, 0, 92, 2)] := rfl
@[simp] theorem z32a_tails : z32a.tails = [] := rfl
@[simp] def z32b : PL := []
def z32c : CT := ⟨callOf (z32b ), callOfE noE, gl⟩
@[simp] theorem z32c_p (f : FuncId) (ds : List D) : z32c.p f ds = callOf (z32b ) f ds := Eq.trans rfl rfl
@[simp] theorem z32c_e (f : FuncId) (hs : List (Nat × O)) (ds : List D) : z32c.e f hs ds = callOfE noE f hs ds := Eq.trans rfl rfl
@[simp] theorem z32c_g (g : Nat) : z32c.g g = gl g := Eq.trans rfl rfl
def L_board_inside (i n : Nat) (s : St) : OS := atN Tryz.prog z32c z32a 25 (bodyOf Tryz.f95) i n s
def z32h (n i : Nat) (s : St) : OS := atH Tryz.prog z32c z32a 25 (bodyOf Tryz.f95) n i s
@[simp] theorem z32h_eq (n i : Nat) (s : St) : z32h n i s = L_board_inside i n (headOf (z32a.loops.lookup i) s) := rfl
def R_board_inside (i : Nat) (s : St) : OS := stepL Tryz.prog z32c z32a 25 (bodyOf Tryz.f95) i s
theorem z32k : okLoops (bodyOf Tryz.f95) = true := by kernel_rfl
def F_board_inside (ds : List D) : Option D := runF Tryz.prog z32c z32a 25 (bodyOf Tryz.f95) [.tmp 4] ds
theorem F_board_inside_eq (ds : List D) : F_board_inside ds = runG Tryz.prog z32c (z32h bigL) z32a 25 (bodyOf Tryz.f95) [.tmp 4] ds := runG_eq z32k _ ds
theorem C_board_inside (ds : List D) (r : D) (h : F_board_inside ds = some r) : Contract Tryz.prog gl 95 ds r := contract_of mix Tryz.func95 rfl (by kernel_rfl) (by kernel_rfl) (by decide) (call := z32c) ⟨callOf_ok z32b trivial, callOfE_ok noE trivial⟩ h
attribute [simp] Tryz.f96
def z33a : Ann := ⟨[1, 2], [6], [], [], [], some [2], [(3, 13)], [], [(64, 0, 92, 2)], []⟩
@[simp] theorem z33a_draws : z33a.draws = [(3, 13)] := rfl
@[simp] theorem z33a_exits : z33a.exits = [] := rfl
@[simp] theorem z33a_rets : z33a.rets = some [2] := rfl
@[simp] theorem z33a_keep : z33a.keep = [1, 2] := rfl
@[simp] theorem z33a_cond : z33a.cond = [6] := rfl
@[simp] theorem z33a_rows : z33a.rows = [] := rfl
@[simp] theorem z33a_loops : z33a.loops = [] := rfl
@[simp] theorem z33a_ecalls : z33a.ecalls = [] := rfl
@[simp] theorem z33a_crows : z33a.crows = [(64, 0, 92, 2)] := rfl
@[simp] theorem z33a_tails : z33a.tails = [] := rfl
@[simp] def z33b : PL := [(90, F_board_isBox), (91, F_board_length)]
def z33c : CT := ⟨callOf (z33b ), callOfE noE, gl⟩
@[simp] theorem z33c_p (f : FuncId) (ds : List D) : z33c.p f ds = callOf (z33b ) f ds := Eq.trans rfl rfl
@[simp] theorem z33c_e (f : FuncId) (hs : List (Nat × O)) (ds : List D) : z33c.e f hs ds = callOfE noE f hs ds := Eq.trans rfl rfl
@[simp] theorem z33c_g (g : Nat) : z33c.g g = gl g := Eq.trans rfl rfl
def L_board_Volume (i n : Nat) (s : St) : OS := atN Tryz.prog z33c z33a 21 (bodyOf Tryz.f96) i n s
def z33h (n i : Nat) (s : St) : OS := atH Tryz.prog z33c z33a 21 (bodyOf Tryz.f96) n i s
@[simp] theorem z33h_eq (n i : Nat) (s : St) : z33h n i s = L_board_Volume i n (headOf (z33a.loops.lookup i) s) := rfl
def R_board_Volume (i : Nat) (s : St) : OS := stepL Tryz.prog z33c z33a 21 (bodyOf Tryz.f96) i s
theorem z33k : okLoops (bodyOf Tryz.f96) = true := by kernel_rfl
def F_board_Volume (ds : List D) : Option D := runF Tryz.prog z33c z33a 21 (bodyOf Tryz.f96) [.tmp 2] ds
theorem F_board_Volume_eq (ds : List D) : F_board_Volume ds = runG Tryz.prog z33c (z33h bigL) z33a 21 (bodyOf Tryz.f96) [.tmp 2] ds := runG_eq z33k _ ds
theorem C_board_Volume (ds : List D) (r : D) (h : F_board_Volume ds = some r) : Contract Tryz.prog gl 96 ds r := contract_of mix Tryz.func96 rfl (by kernel_rfl) (by kernel_rfl) (by decide) (call := z33c) ⟨callOf_ok z33b ⟨C_board_isBox, C_board_length, trivial⟩, callOfE_ok noE trivial⟩ h
attribute [simp] Tryz.f97
def z34a : Ann := ⟨[2], [], [], [], [], some [2], [], [], [(64, 0, 92, 2)], []⟩
@[simp] theorem z34a_draws : z34a.draws = [] := rfl
@[simp] theorem z34a_exits : z34a.exits = [] := rfl
@[simp] theorem z34a_rets : z34a.rets = some [2] := rfl
@[simp] theorem z34a_keep : z34a.keep = [2] := rfl
@[simp] theorem z34a_cond : z34a.cond = [] := rfl
@[simp] theorem z34a_rows : z34a.rows = [] := rfl
@[simp] theorem z34a_loops : z34a.loops = [] := rfl
@[simp] theorem z34a_ecalls : z34a.ecalls = [] := rfl
@[simp] theorem z34a_crows : z34a.crows = [(64, 0, 92, 2)] := rfl
@[simp] theorem z34a_tails : z34a.tails = [] := rfl
@[simp] def z34b : PL := []
def z34c : CT := ⟨callOf (z34b ), callOfE noE, gl⟩
@[simp] theorem z34c_p (f : FuncId) (ds : List D) : z34c.p f ds = callOf (z34b ) f ds := Eq.trans rfl rfl
@[simp] theorem z34c_e (f : FuncId) (hs : List (Nat × O)) (ds : List D) : z34c.e f hs ds = callOfE noE f hs ds := Eq.trans rfl rfl
@[simp] theorem z34c_g (g : Nat) : z34c.g g = gl g := Eq.trans rfl rfl
def L_board_isMoist (i n : Nat) (s : St) : OS := atN Tryz.prog z34c z34a 9 (bodyOf Tryz.f97) i n s
def z34h (n i : Nat) (s : St) : OS := atH Tryz.prog z34c z34a 9 (bodyOf Tryz.f97) n i s
@[simp] theorem z34h_eq (n i : Nat) (s : St) : z34h n i s = L_board_isMoist i n (headOf (z34a.loops.lookup i) s) := rfl
def R_board_isMoist (i : Nat) (s : St) : OS := stepL Tryz.prog z34c z34a 9 (bodyOf Tryz.f97) i s
theorem z34k : okLoops (bodyOf Tryz.f97) = true := by kernel_rfl
def F_board_isMoist (ds : List D) : Option D := runF Tryz.prog z34c z34a 9 (bodyOf Tryz.f97) [.tmp 2] ds
theorem F_board_isMoist_eq (ds : List D) : F_board_isMoist ds = runG Tryz.prog z34c (z34h bigL) z34a 9 (bodyOf Tryz.f97) [.tmp 2] ds := runG_eq z34k _ ds
theorem C_board_isMoist (ds : List D) (r : D) (h : F_board_isMoist ds = some r) : Contract Tryz.prog gl 97 ds r := contract_of mix Tryz.func97 rfl (by kernel_rfl) (by kernel_rfl) (by decide) (call := z34c) ⟨callOf_ok z34b trivial, callOfE_ok noE trivial⟩ h
attribute [simp] Tryz.f45
def z35a : Ann := ⟨[1, 2, 4, 5, 6, 7, 8, 9, 10, 11, 12, 13, 15, 100, 101, 102], [19, 36, 46, 50, 87, 92, 97, 103, 127, 148, 172, 180], [], [(22, [2, 7, 8, 9, 100, 101, 102])], [(0, [2]), (1, [2, 7, 8, 9, 100, 101, 102])], some [4], [(11, 11), (27, 8)], [], [(64, 0, 92, 2)], []⟩
@[simp] theorem z35a_draws : z35a.draws = [(11, 11), (27, 8)] := rfl
@[simp] theorem z35a_exits : z35a.exits = [(0, [2]), (1, [2, 7, 8, 9, 100, 101, 102])] := rfl
@[simp] theorem z35a_rets : z35a.rets = some [4] := rfl
@[simp] theorem z35a_keep : z35a.keep = [1, 2, 4, 5, 6, 7, 8, 9, 10, 11, 12, 13, 15, 100, 101, 102] := rfl
@[simp] theorem z35a_cond : z35a.cond = [19, 36, 46, 50, 87, 92, 97, 103, 127, 148, 172, 180] := rfl
@[simp] theorem z35a_rows : z35a.rows = [] := rfl
@[simp] theorem z35a_loops : z35a.loops = [(22, [2, 7, 8, 9, 100, 101, 102])] := rfl
@[simp] theorem z35a_ecalls : z35a.ecalls = [] := rfl
@[simp] theorem z35a_crows : z35a.crows = [(64, 0, 92, 2)] := rfl
@[simp] theorem z35a_tails : z35a.tails = [] := rfl
@[simp] def z35b : PL := [(44, F_product_Check), (86, F_ident_IsName), (89, F_ident_Is), (90, F_board_isBox), (91, F_board_length), (92, F_product_Green), (93, F_slices_Contains_int_int), (94, F_defect_Check), (95, F_board_inside), (96, F_board_Volume), (97, F_board_isMoist)]
def z35c : CT := ⟨callOf (z35b ), callOfE noE, gl⟩
@[simp] theorem z35c_p (f : FuncId) (ds : List D) : z35c.p f ds = callOf (z35b ) f ds := Eq.trans rfl rfl
@[simp] theorem z35c_e (f : FuncId) (hs : List (Nat × O)) (ds : List D) : z35c.e f hs ds = callOfE noE f hs ds := Eq.trans rfl rfl
@[simp] theorem z35c_g (g : Nat) : z35c.g g = gl g := Eq.trans rfl rfl
def L_board_Check (i n : Nat) (s : St) : OS := atN Tryz.prog z35c z35a 181 (bodyOf Tryz.f45) i n s
def z35h (n i : Nat) (s : St) : OS := atH Tryz.prog z35c z35a 181 (bodyOf Tryz.f45) n i s
@[simp] theorem z35h_eq (n i : Nat) (s : St) : z35h n i s = L_board_Check i n (headOf (z35a.loops.lookup i) s) := rfl
def R_board_Check (i : Nat) (s : St) : OS := stepL Tryz.prog z35c z35a 181 (bodyOf Tryz.f45) i s
theorem z35k : okLoops (bodyOf Tryz.f45) = true := by kernel_rfl
theorem L_board_Check_zero (i : Nat) (s : St) : L_board_Check i 0 s = none := rfl
theorem L_board_Check_succ (i n : Nat) (s : St) : L_board_Check i (n + 1) s = andThen (R_board_Check i s) (z35h n i) := atN_succ z35k i n s
theorem R_board_Check_eq (i : Nat) (s : St) : R_board_Check i s = runS Tryz.prog z35c (z35h bigL) z35a 181 (loopAt (bodyOf Tryz.f45) i) s := rfl
def F_board_Check (ds : List D) : Option D := runF Tryz.prog z35c z35a 181 (bodyOf Tryz.f45) [.tmp 4] ds
theorem F_board_Check_eq (ds : List D) : F_board_Check ds = runG Tryz.prog z35c (z35h bigL) z35a 181 (bodyOf Tryz.f45) [.tmp 4] ds := runG_eq z35k _ ds
theorem C_board_Check (ds : List D) (r : D) (h : F_board_Check ds = some r) : Contract Tryz.prog gl 45 ds r := contract_of mix Tryz.func45 rfl (by kernel_rfl) (by kernel_rfl) (by decide) (call := z35c) ⟨callOf_ok z35b ⟨C_product_Check, C_ident_IsName, C_ident_Is, C_board_isBox, C_board_length, C_product_Green, C_slices_Contains_int_int, C_defect_Check, C_board_inside, C_board_Volume, C_board_isMoist, trivial⟩, callOfE_ok noE trivial⟩ h
attribute [simp] Tryz.f98
def z36a : Ann := ⟨[4, 5, 7, 8, 9, 10], [11, 17], [], [(2, [1, 4, 8, 9, 10])], [(0, [4]), (1, [1, 4, 8, 9, 10])], some [4, 5], [], [], [(64, 0, 92, 2)], []⟩
@[simp] theorem z36a_draws : z36a.draws = [] := rfl
@[simp] theorem z36a_exits : z36a.exits = [(0, [4]), (1, [1, 4, 8, 9, 10])] := rfl
@[simp] theorem z36a_rets : z36a.rets = some [4, 5] := rfl
@[simp] theorem z36a_keep : z36a.keep = [4, 5, 7, 8, 9, 10] := rfl
@[simp] theorem z36a_cond : z36a.cond = [11, 17] := rfl
@[simp] theorem z36a_rows : z36a.rows = [] := rfl
@[simp] theorem z36a_loops : z36a.loops = [(2, [1, 4, 8, 9, 10])] := rfl
@[simp] theorem z36a_ecalls : z36a.ecalls = [] := rfl
@[simp] theorem z36a_crows : z36a.crows = [(64, 0, 92, 2)] := rfl
@[simp] theorem z36a_tails : z36a.tails = [] := rfl
@[simp] def z36b : PL := []
def z36c : CT := ⟨callOf (z36b ), callOfE noE, gl⟩
@[simp] theorem z36c_p (f : FuncId) (ds : List D) : z36c.p f ds = callOf (z36b ) f ds := Eq.trans rfl rfl
@[simp] theorem z36c_e (f : FuncId) (hs : List (Nat × O)) (ds : List D) : z36c.e f hs ds = callOfE noE f hs ds := Eq.trans rfl rfl
@[simp] theorem z36c_g (g : Nat) : z36c.g g = gl g := Eq.trans rfl rfl
def L_wood_Find (i n : Nat) (s : St) : OS := atN Tryz.prog z36c z36a 21 (bodyOf Tryz.f98) i n s
def z36h (n i : Nat) (s : St) : OS := atH Tryz.prog z36c z36a 21 (bodyOf Tryz.f98) n i s
@[simp] theorem z36h_eq (n i : Nat) (s : St) : z36h n i s = L_wood_Find i n (headOf (z36a.loops.lookup i) s) := rfl
def R_wood_Find (i : Nat) (s : St) : OS := stepL Tryz.prog z36c z36a 21 (bodyOf Tryz.f98) i s
theorem z36k : okLoops (bodyOf Tryz.f98) = true := by kernel_rfl
theorem L_wood_Find_zero (i : Nat) (s : St) : L_wood_Find i 0 s = none := rfl
theorem L_wood_Find_succ (i n : Nat) (s : St) : L_wood_Find i (n + 1) s = andThen (R_wood_Find i s) (z36h n i) := atN_succ z36k i n s
theorem R_wood_Find_eq (i : Nat) (s : St) : R_wood_Find i s = runS Tryz.prog z36c (z36h bigL) z36a 21 (loopAt (bodyOf Tryz.f98) i) s := rfl
def F_wood_Find (ds : List D) : Option D := runF Tryz.prog z36c z36a 21 (bodyOf Tryz.f98) [.cell 4 33, .tmp 5] ds
theorem F_wood_Find_eq (ds : List D) : F_wood_Find ds = runG Tryz.prog z36c (z36h bigL) z36a 21 (bodyOf Tryz.f98) [.cell 4 33, .tmp 5] ds := runG_eq z36k _ ds
theorem C_wood_Find (ds : List D) (r : D) (h : F_wood_Find ds = some r) : Contract Tryz.prog gl 98 ds r := contract_of mix Tryz.func98 rfl (by kernel_rfl) (by kernel_rfl) (by decide) (call := z36c) ⟨callOf_ok z36b trivial, callOfE_ok noE trivial⟩ h
attribute [simp] Tryz.f155
def z37a : Ann := ⟨[1, 2], [], [], [], [], some [2], [], [], [(64, 0, 92, 2)], []⟩
@[simp] theorem z37a_draws : z37a.draws = [] := rfl
@[simp] theorem z37a_exits : z37a.exits = [] := rfl
@[simp] theorem z37a_rets : z37a.rets = some [2] := rfl
@[simp] theorem z37a_keep : z37a.keep = [1, 2] := rfl
@[simp] theorem z37a_cond : z37a.cond = [] := rfl
@[simp] theorem z37a_rows : z37a.rows = [] := rfl
@[simp] theorem z37a_loops : z37a.loops = [] := rfl
@[simp] theorem z37a_ecalls : z37a.ecalls = [] := rfl
@[simp] theorem z37a_crows : z37a.crows = [(64, 0, 92, 2)] := rfl
@[simp] theorem z37a_tails : z37a.tails = [] := rfl
@[simp] def z37b : PL := []
def z37c : CT := ⟨callOf (z37b ), callOfE noE, gl⟩
@[simp] theorem z37c_p (f : FuncId) (ds : List D) : z37c.p f ds = callOf (z37b ) f ds := Eq.trans rfl rfl
@[simp] theorem z37c_e (f : FuncId) (hs : List (Nat × O)) (ds : List D) : z37c.e f hs ds = callOfE noE f hs ds := Eq.trans rfl rfl
@[simp] theorem z37c_g (g : Nat) : z37c.g g = gl g := Eq.trans rfl rfl
def L_wood_numbers (i n : Nat) (s : St) : OS := atN Tryz.prog z37c z37a 28 (bodyOf Tryz.f155) i n s
def z37h (n i : Nat) (s : St) : OS := atH Tryz.prog z37c z37a 28 (bodyOf Tryz.f155) n i s
@[simp] theorem z37h_eq (n i : Nat) (s : St) : z37h n i s = L_wood_numbers i n (headOf (z37a.loops.lookup i) s) := rfl
def R_wood_numbers (i : Nat) (s : St) : OS := stepL Tryz.prog z37c z37a 28 (bodyOf Tryz.f155) i s
theorem z37k : okLoops (bodyOf Tryz.f155) = true := by kernel_rfl
def F_wood_numbers (ds : List D) : Option D := runF Tryz.prog z37c z37a 28 (bodyOf Tryz.f155) [.cell 2 172] ds
theorem F_wood_numbers_eq (ds : List D) : F_wood_numbers ds = runG Tryz.prog z37c (z37h bigL) z37a 28 (bodyOf Tryz.f155) [.cell 2 172] ds := runG_eq z37k _ ds
theorem C_wood_numbers (ds : List D) (r : D) (h : F_wood_numbers ds = some r) : Contract Tryz.prog gl 155 ds r := contract_of mix Tryz.func155 rfl (by kernel_rfl) (by kernel_rfl) (by decide) (call := z37c) ⟨callOf_ok z37b trivial, callOfE_ok noE trivial⟩ h
attribute [simp] Tryz.f99
def z38a : Ann := ⟨[1, 2, 3, 4, 5, 24, 25], [26, 42], [], [(3, [3, 24, 25])], [(0, []), (1, [3, 24, 25])], some [2], [], [], [(64, 0, 92, 2)], []⟩
@[simp] theorem z38a_draws : z38a.draws = [] := rfl
@[simp] theorem z38a_exits : z38a.exits = [(0, []), (1, [3, 24, 25])] := rfl
@[simp] theorem z38a_rets : z38a.rets = some [2] := rfl
@[simp] theorem z38a_keep : z38a.keep = [1, 2, 3, 4, 5, 24, 25] := rfl
@[simp] theorem z38a_cond : z38a.cond = [26, 42] := rfl
@[simp] theorem z38a_rows : z38a.rows = [] := rfl
@[simp] theorem z38a_loops : z38a.loops = [(3, [3, 24, 25])] := rfl
@[simp] theorem z38a_ecalls : z38a.ecalls = [] := rfl
@[simp] theorem z38a_crows : z38a.crows = [(64, 0, 92, 2)] := rfl
@[simp] theorem z38a_tails : z38a.tails = [] := rfl
@[simp] def z38b : PL := [(155, F_wood_numbers)]
def z38c : CT := ⟨callOf (z38b ), callOfE noE, gl⟩
@[simp] theorem z38c_p (f : FuncId) (ds : List D) : z38c.p f ds = callOf (z38b ) f ds := Eq.trans rfl rfl
@[simp] theorem z38c_e (f : FuncId) (hs : List (Nat × O)) (ds : List D) : z38c.e f hs ds = callOfE noE f hs ds := Eq.trans rfl rfl
@[simp] theorem z38c_g (g : Nat) : z38c.g g = gl g := Eq.trans rfl rfl
def L_wood_inRange (i n : Nat) (s : St) : OS := atN Tryz.prog z38c z38a 44 (bodyOf Tryz.f99) i n s
def z38h (n i : Nat) (s : St) : OS := atH Tryz.prog z38c z38a 44 (bodyOf Tryz.f99) n i s
@[simp] theorem z38h_eq (n i : Nat) (s : St) : z38h n i s = L_wood_inRange i n (headOf (z38a.loops.lookup i) s) := rfl
def R_wood_inRange (i : Nat) (s : St) : OS := stepL Tryz.prog z38c z38a 44 (bodyOf Tryz.f99) i s
theorem z38k : okLoops (bodyOf Tryz.f99) = true := by kernel_rfl
theorem L_wood_inRange_zero (i : Nat) (s : St) : L_wood_inRange i 0 s = none := rfl
theorem L_wood_inRange_succ (i n : Nat) (s : St) : L_wood_inRange i (n + 1) s = andThen (R_wood_inRange i s) (z38h n i) := atN_succ z38k i n s
theorem R_wood_inRange_eq (i : Nat) (s : St) : R_wood_inRange i s = runS Tryz.prog z38c (z38h bigL) z38a 44 (loopAt (bodyOf Tryz.f99) i) s := rfl
def F_wood_inRange (ds : List D) : Option D := runF Tryz.prog z38c z38a 44 (bodyOf Tryz.f99) [.tmp 2] ds
theorem F_wood_inRange_eq (ds : List D) : F_wood_inRange ds = runG Tryz.prog z38c (z38h bigL) z38a 44 (bodyOf Tryz.f99) [.tmp 2] ds := runG_eq z38k _ ds
theorem C_wood_inRange (ds : List D) (r : D) (h : F_wood_inRange ds = some r) : Contract Tryz.prog gl 99 ds r := contract_of mix Tryz.func99 rfl (by kernel_rfl) (by kernel_rfl) (by decide) (call := z38c) ⟨callOf_ok z38b ⟨C_wood_numbers, trivial⟩, callOfE_ok noE trivial⟩ h
attribute [simp] Tryz.f46
def z39a : Ann := ⟨[0, 2, 3, 4, 6, 10, 11, 12], [9, 13, 20, 30, 33], [], [(4, [0, 10, 11, 12])], [(0, []), (1, [0, 10, 11, 12])], some [2], [(8, 11)], [], [(64, 0, 92, 2)], []⟩
@[simp] theorem z39a_draws : z39a.draws = [(8, 11)] := rfl
@[simp] theorem z39a_exits : z39a.exits = [(0, []), (1, [0, 10, 11, 12])] := rfl
@[simp] theorem z39a_rets : z39a.rets = some [2] := rfl
@[simp] theorem z39a_keep : z39a.keep = [0, 2, 3, 4, 6, 10, 11, 12] := rfl
@[simp] theorem z39a_cond : z39a.cond = [9, 13, 20, 30, 33] := rfl
@[simp] theorem z39a_rows : z39a.rows = [] := rfl
@[simp] theorem z39a_loops : z39a.loops = [(4, [0, 10, 11, 12])] := rfl
@[simp] theorem z39a_ecalls : z39a.ecalls = [] := rfl
@[simp] theorem z39a_crows : z39a.crows = [(64, 0, 92, 2)] := rfl
@[simp] theorem z39a_tails : z39a.tails = [] := rfl
@[simp] def z39b : PL := [(86, F_ident_IsName), (98, F_wood_Find), (99, F_wood_inRange)]
def z39c : CT := ⟨callOf (z39b ), callOfE noE, gl⟩
@[simp] theorem z39c_p (f : FuncId) (ds : List D) : z39c.p f ds = callOf (z39b ) f ds := Eq.trans rfl rfl
@[simp] theorem z39c_e (f : FuncId) (hs : List (Nat × O)) (ds : List D) : z39c.e f hs ds = callOfE noE f hs ds := Eq.trans rfl rfl
@[simp] theorem z39c_g (g : Nat) : z39c.g g = gl g := Eq.trans rfl rfl
def L_wood_Check (i n : Nat) (s : St) : OS := atN Tryz.prog z39c z39a 35 (bodyOf Tryz.f46) i n s
def z39h (n i : Nat) (s : St) : OS := atH Tryz.prog z39c z39a 35 (bodyOf Tryz.f46) n i s
@[simp] theorem z39h_eq (n i : Nat) (s : St) : z39h n i s = L_wood_Check i n (headOf (z39a.loops.lookup i) s) := rfl
def R_wood_Check (i : Nat) (s : St) : OS := stepL Tryz.prog z39c z39a 35 (bodyOf Tryz.f46) i s
theorem z39k : okLoops (bodyOf Tryz.f46) = true := by kernel_rfl
theorem L_wood_Check_zero (i : Nat) (s : St) : L_wood_Check i 0 s = none := rfl
theorem L_wood_Check_succ (i n : Nat) (s : St) : L_wood_Check i (n + 1) s = andThen (R_wood_Check i s) (z39h n i) := atN_succ z39k i n s
theorem R_wood_Check_eq (i : Nat) (s : St) : R_wood_Check i s = runS Tryz.prog z39c (z39h bigL) z39a 35 (loopAt (bodyOf Tryz.f46) i) s := rfl
def F_wood_Check (ds : List D) : Option D := runF Tryz.prog z39c z39a 35 (bodyOf Tryz.f46) [.tmp 2] ds
theorem F_wood_Check_eq (ds : List D) : F_wood_Check ds = runG Tryz.prog z39c (z39h bigL) z39a 35 (bodyOf Tryz.f46) [.tmp 2] ds := runG_eq z39k _ ds
theorem C_wood_Check (ds : List D) (r : D) (h : F_wood_Check ds = some r) : Contract Tryz.prog gl 46 ds r := contract_of mix Tryz.func46 rfl (by kernel_rfl) (by kernel_rfl) (by decide) (call := z39c) ⟨callOf_ok z39b ⟨C_ident_IsName, C_wood_Find, C_wood_inRange, trivial⟩, callOfE_ok noE trivial⟩ h
attribute [simp] Tryz.f48
def z40a : Ann := ⟨[0], [], [], [], [], some [0], [], [], [(64, 0, 92, 2)], []⟩
@[simp] theorem z40a_draws : z40a.draws = [] := rfl
@[simp] theorem z40a_exits : z40a.exits = [] := rfl
@[simp] theorem z40a_rets : z40a.rets = some [0] := rfl
@[simp] theorem z40a_keep : z40a.keep = [0] := rfl
@[simp] theorem z40a_cond : z40a.cond = [] := rfl
@[simp] theorem z40a_rows : z40a.rows = [] := rfl
@[simp] theorem z40a_loops : z40a.loops = [] := rfl
@[simp] theorem z40a_ecalls : z40a.ecalls = [] := rfl
@[simp] theorem z40a_crows : z40a.crows = [(64, 0, 92, 2)] := rfl
@[simp] theorem z40a_tails : z40a.tails = [] := rfl
@[simp] def z40b : PL := []
def z40c : CT := ⟨callOf (z40b ), callOfE noE, gl⟩
@[simp] theorem z40c_p (f : FuncId) (ds : List D) : z40c.p f ds = callOf (z40b ) f ds := Eq.trans rfl rfl
@[simp] theorem z40c_e (f : FuncId) (hs : List (Nat × O)) (ds : List D) : z40c.e f hs ds = callOfE noE f hs ds := Eq.trans rfl rfl
@[simp] theorem z40c_g (g : Nat) : z40c.g g = gl g := Eq.trans rfl rfl
def L_feature_Names (i n : Nat) (s : St) : OS := atN Tryz.prog z40c z40a 2 (bodyOf Tryz.f48) i n s
def z40h (n i : Nat) (s : St) : OS := atH Tryz.prog z40c z40a 2 (bodyOf Tryz.f48) n i s
@[simp] theorem z40h_eq (n i : Nat) (s : St) : z40h n i s = L_feature_Names i n (headOf (z40a.loops.lookup i) s) := rfl
def R_feature_Names (i : Nat) (s : St) : OS := stepL Tryz.prog z40c z40a 2 (bodyOf Tryz.f48) i s
theorem z40k : okLoops (bodyOf Tryz.f48) = true := by kernel_rfl
def F_feature_Names (ds : List D) : Option D := runF Tryz.prog z40c z40a 2 (bodyOf Tryz.f48) [.tmp 0] ds
theorem F_feature_Names_eq (ds : List D) : F_feature_Names ds = runG Tryz.prog z40c (z40h bigL) z40a 2 (bodyOf Tryz.f48) [.tmp 0] ds := runG_eq z40k _ ds
theorem C_feature_Names (ds : List D) (r : D) (h : F_feature_Names ds = some r) : Contract Tryz.prog gl 48 ds r := contract_of mix Tryz.func48 rfl (by kernel_rfl) (by kernel_rfl) (by decide) (call := z40c) ⟨callOf_ok z40b trivial, callOfE_ok noE trivial⟩ h
attribute [simp] Tryz.f195
def z41a : Ann := ⟨[2, 3, 4], [7], [], [], [(0, [])], some [2], [], [], [(64, 0, 92, 2)], []⟩
@[simp] theorem z41a_draws : z41a.draws = [] := rfl
@[simp] theorem z41a_exits : z41a.exits = [(0, [])] := rfl
@[simp] theorem z41a_rets : z41a.rets = some [2] := rfl
@[simp] theorem z41a_keep : z41a.keep = [2, 3, 4] := rfl
@[simp] theorem z41a_cond : z41a.cond = [7] := rfl
@[simp] theorem z41a_rows : z41a.rows = [] := rfl
@[simp] theorem z41a_loops : z41a.loops = [] := rfl
@[simp] theorem z41a_ecalls : z41a.ecalls = [] := rfl
@[simp] theorem z41a_crows : z41a.crows = [(64, 0, 92, 2)] := rfl
@[simp] theorem z41a_tails : z41a.tails = [] := rfl
@[simp] def z41b : PL := []
def z41c : CT := ⟨callOf (z41b ), callOfE noE, gl⟩
@[simp] theorem z41c_p (f : FuncId) (ds : List D) : z41c.p f ds = callOf (z41b ) f ds := Eq.trans rfl rfl
@[simp] theorem z41c_e (f : FuncId) (hs : List (Nat × O)) (ds : List D) : z41c.e f hs ds = callOfE noE f hs ds := Eq.trans rfl rfl
@[simp] theorem z41c_g (g : Nat) : z41c.g g = gl g := Eq.trans rfl rfl
def L_rule_takes (i n : Nat) (s : St) : OS := atN Tryz.prog z41c z41a 9 (bodyOf Tryz.f195) i n s
def z41h (n i : Nat) (s : St) : OS := atH Tryz.prog z41c z41a 9 (bodyOf Tryz.f195) n i s
@[simp] theorem z41h_eq (n i : Nat) (s : St) : z41h n i s = L_rule_takes i n (headOf (z41a.loops.lookup i) s) := rfl
def R_rule_takes (i : Nat) (s : St) : OS := stepL Tryz.prog z41c z41a 9 (bodyOf Tryz.f195) i s
theorem z41k : okLoops (bodyOf Tryz.f195) = true := by kernel_rfl
def F_rule_takes (ds : List D) : Option D := runF Tryz.prog z41c z41a 9 (bodyOf Tryz.f195) [.tmp 2] ds
theorem F_rule_takes_eq (ds : List D) : F_rule_takes ds = runG Tryz.prog z41c (z41h bigL) z41a 9 (bodyOf Tryz.f195) [.tmp 2] ds := runG_eq z41k _ ds
theorem C_rule_takes (ds : List D) (r : D) (h : F_rule_takes ds = some r) : Contract Tryz.prog gl 195 ds r := contract_of mix Tryz.func195 rfl (by kernel_rfl) (by kernel_rfl) (by decide) (call := z41c) ⟨callOf_ok z41b trivial, callOfE_ok noE trivial⟩ h
attribute [simp] Tryz.f213
def z42a : Ann := ⟨[0, 4, 5, 7, 8], [9, 16], [], [(2, [0, 1, 7, 8])], [(0, []), (1, [0, 1, 7, 8])], some [4], [], [], [(64, 0, 92, 2)], []⟩
@[simp] theorem z42a_draws : z42a.draws = [] := rfl
@[simp] theorem z42a_exits : z42a.exits = [(0, []), (1, [0, 1, 7, 8])] := rfl
@[simp] theorem z42a_rets : z42a.rets = some [4] := rfl
@[simp] theorem z42a_keep : z42a.keep = [0, 4, 5, 7, 8] := rfl
@[simp] theorem z42a_cond : z42a.cond = [9, 16] := rfl
@[simp] theorem z42a_rows : z42a.rows = [] := rfl
@[simp] theorem z42a_loops : z42a.loops = [(2, [0, 1, 7, 8])] := rfl
@[simp] theorem z42a_ecalls : z42a.ecalls = [] := rfl
@[simp] theorem z42a_crows : z42a.crows = [(64, 0, 92, 2)] := rfl
@[simp] theorem z42a_tails : z42a.tails = [] := rfl
@[simp] def z42b : PL := []
def z42c : CT := ⟨callOf (z42b ), callOfE noE, gl⟩
@[simp] theorem z42c_p (f : FuncId) (ds : List D) : z42c.p f ds = callOf (z42b ) f ds := Eq.trans rfl rfl
@[simp] theorem z42c_e (f : FuncId) (hs : List (Nat × O)) (ds : List D) : z42c.e f hs ds = callOfE noE f hs ds := Eq.trans rfl rfl
@[simp] theorem z42c_g (g : Nat) : z42c.g g = gl g := Eq.trans rfl rfl
def L_slices_Index_string_string (i n : Nat) (s : St) : OS := atN Tryz.prog z42c z42a 19 (bodyOf Tryz.f213) i n s
def z42h (n i : Nat) (s : St) : OS := atH Tryz.prog z42c z42a 19 (bodyOf Tryz.f213) n i s
@[simp] theorem z42h_eq (n i : Nat) (s : St) : z42h n i s = L_slices_Index_string_string i n (headOf (z42a.loops.lookup i) s) := rfl
def R_slices_Index_string_string (i : Nat) (s : St) : OS := stepL Tryz.prog z42c z42a 19 (bodyOf Tryz.f213) i s
theorem z42k : okLoops (bodyOf Tryz.f213) = true := by kernel_rfl
theorem L_slices_Index_string_string_zero (i : Nat) (s : St) : L_slices_Index_string_string i 0 s = none := rfl
theorem L_slices_Index_string_string_succ (i n : Nat) (s : St) : L_slices_Index_string_string i (n + 1) s = andThen (R_slices_Index_string_string i s) (z42h n i) := atN_succ z42k i n s
theorem R_slices_Index_string_string_eq (i : Nat) (s : St) : R_slices_Index_string_string i s = runS Tryz.prog z42c (z42h bigL) z42a 19 (loopAt (bodyOf Tryz.f213) i) s := rfl
def F_slices_Index_string_string (ds : List D) : Option D := runF Tryz.prog z42c z42a 19 (bodyOf Tryz.f213) [.tmp 4] ds
theorem F_slices_Index_string_string_eq (ds : List D) : F_slices_Index_string_string ds = runG Tryz.prog z42c (z42h bigL) z42a 19 (bodyOf Tryz.f213) [.tmp 4] ds := runG_eq z42k _ ds
theorem C_slices_Index_string_string (ds : List D) (r : D) (h : F_slices_Index_string_string ds = some r) : Contract Tryz.prog gl 213 ds r := contract_of mix Tryz.func213 rfl (by kernel_rfl) (by kernel_rfl) (by decide) (call := z42c) ⟨callOf_ok z42b trivial, callOfE_ok noE trivial⟩ h
attribute [simp] Tryz.f196
def z43a : Ann := ⟨[4], [], [], [], [], some [4], [], [], [(64, 0, 92, 2)], []⟩
@[simp] theorem z43a_draws : z43a.draws = [] := rfl
@[simp] theorem z43a_exits : z43a.exits = [] := rfl
@[simp] theorem z43a_rets : z43a.rets = some [4] := rfl
@[simp] theorem z43a_keep : z43a.keep = [4] := rfl
@[simp] theorem z43a_cond : z43a.cond = [] := rfl
@[simp] theorem z43a_rows : z43a.rows = [] := rfl
@[simp] theorem z43a_loops : z43a.loops = [] := rfl
@[simp] theorem z43a_ecalls : z43a.ecalls = [] := rfl
@[simp] theorem z43a_crows : z43a.crows = [(64, 0, 92, 2)] := rfl
@[simp] theorem z43a_tails : z43a.tails = [] := rfl
@[simp] def z43b : PL := [(213, F_slices_Index_string_string)]
def z43c : CT := ⟨callOf (z43b ), callOfE noE, gl⟩
@[simp] theorem z43c_p (f : FuncId) (ds : List D) : z43c.p f ds = callOf (z43b ) f ds := Eq.trans rfl rfl
@[simp] theorem z43c_e (f : FuncId) (hs : List (Nat × O)) (ds : List D) : z43c.e f hs ds = callOfE noE f hs ds := Eq.trans rfl rfl
@[simp] theorem z43c_g (g : Nat) : z43c.g g = gl g := Eq.trans rfl rfl
def L_slices_Contains_string_string (i n : Nat) (s : St) : OS := atN Tryz.prog z43c z43a 9 (bodyOf Tryz.f196) i n s
def z43h (n i : Nat) (s : St) : OS := atH Tryz.prog z43c z43a 9 (bodyOf Tryz.f196) n i s
@[simp] theorem z43h_eq (n i : Nat) (s : St) : z43h n i s = L_slices_Contains_string_string i n (headOf (z43a.loops.lookup i) s) := rfl
def R_slices_Contains_string_string (i : Nat) (s : St) : OS := stepL Tryz.prog z43c z43a 9 (bodyOf Tryz.f196) i s
theorem z43k : okLoops (bodyOf Tryz.f196) = true := by kernel_rfl
def F_slices_Contains_string_string (ds : List D) : Option D := runF Tryz.prog z43c z43a 9 (bodyOf Tryz.f196) [.tmp 4] ds
theorem F_slices_Contains_string_string_eq (ds : List D) : F_slices_Contains_string_string ds = runG Tryz.prog z43c (z43h bigL) z43a 9 (bodyOf Tryz.f196) [.tmp 4] ds := runG_eq z43k _ ds
theorem C_slices_Contains_string_string (ds : List D) (r : D) (h : F_slices_Contains_string_string ds = some r) : Contract Tryz.prog gl 196 ds r := contract_of mix Tryz.func196 rfl (by kernel_rfl) (by kernel_rfl) (by decide) (call := z43c) ⟨callOf_ok z43b ⟨C_slices_Index_string_string, trivial⟩, callOfE_ok noE trivial⟩ h
attribute [simp] Tryz.f161
def z44a : Ann := ⟨[2], [], [], [], [], some [2], [], [], [(64, 0, 92, 2)], []⟩
@[simp] theorem z44a_draws : z44a.draws = [] := rfl
@[simp] theorem z44a_exits : z44a.exits = [] := rfl
@[simp] theorem z44a_rets : z44a.rets = some [2] := rfl
@[simp] theorem z44a_keep : z44a.keep = [2] := rfl
@[simp] theorem z44a_cond : z44a.cond = [] := rfl
@[simp] theorem z44a_rows : z44a.rows = [] := rfl
@[simp] theorem z44a_loops : z44a.loops = [] := rfl
@[simp] theorem z44a_ecalls : z44a.ecalls = [] := rfl
@[simp] theorem z44a_crows : z44a.crows = [(64, 0, 92, 2)] := rfl
@[simp] theorem z44a_tails : z44a.tails = [] := rfl
@[simp] def z44b : PL := []
def z44c : CT := ⟨callOf (z44b ), callOfE noE, gl⟩
@[simp] theorem z44c_p (f : FuncId) (ds : List D) : z44c.p f ds = callOf (z44b ) f ds := Eq.trans rfl rfl
@[simp] theorem z44c_e (f : FuncId) (hs : List (Nat × O)) (ds : List D) : z44c.e f hs ds = callOfE noE f hs ds := Eq.trans rfl rfl
@[simp] theorem z44c_g (g : Nat) : z44c.g g = gl g := Eq.trans rfl rfl
def L_rule_bounded (i n : Nat) (s : St) : OS := atN Tryz.prog z44c z44a 9 (bodyOf Tryz.f161) i n s
def z44h (n i : Nat) (s : St) : OS := atH Tryz.prog z44c z44a 9 (bodyOf Tryz.f161) n i s
@[simp] theorem z44h_eq (n i : Nat) (s : St) : z44h n i s = L_rule_bounded i n (headOf (z44a.loops.lookup i) s) := rfl
def R_rule_bounded (i : Nat) (s : St) : OS := stepL Tryz.prog z44c z44a 9 (bodyOf Tryz.f161) i s
theorem z44k : okLoops (bodyOf Tryz.f161) = true := by kernel_rfl
def F_rule_bounded (ds : List D) : Option D := runF Tryz.prog z44c z44a 9 (bodyOf Tryz.f161) [.tmp 2] ds
theorem F_rule_bounded_eq (ds : List D) : F_rule_bounded ds = runG Tryz.prog z44c (z44h bigL) z44a 9 (bodyOf Tryz.f161) [.tmp 2] ds := runG_eq z44k _ ds
theorem C_rule_bounded (ds : List D) (r : D) (h : F_rule_bounded ds = some r) : Contract Tryz.prog gl 161 ds r := contract_of mix Tryz.func161 rfl (by kernel_rfl) (by kernel_rfl) (by decide) (call := z44c) ⟨callOf_ok z44b trivial, callOfE_ok noE trivial⟩ h
attribute [simp] Tryz.f157
def z45a : Ann := ⟨[2], [], [], [], [], some [2], [], [], [(64, 0, 92, 2)], []⟩
@[simp] theorem z45a_draws : z45a.draws = [] := rfl
@[simp] theorem z45a_exits : z45a.exits = [] := rfl
@[simp] theorem z45a_rets : z45a.rets = some [2] := rfl
@[simp] theorem z45a_keep : z45a.keep = [2] := rfl
@[simp] theorem z45a_cond : z45a.cond = [] := rfl
@[simp] theorem z45a_rows : z45a.rows = [] := rfl
@[simp] theorem z45a_loops : z45a.loops = [] := rfl
@[simp] theorem z45a_ecalls : z45a.ecalls = [] := rfl
@[simp] theorem z45a_crows : z45a.crows = [(64, 0, 92, 2)] := rfl
@[simp] theorem z45a_tails : z45a.tails = [] := rfl
@[simp] def z45b : PL := []
def z45c : CT := ⟨callOf (z45b ), callOfE noE, gl⟩
@[simp] theorem z45c_p (f : FuncId) (ds : List D) : z45c.p f ds = callOf (z45b ) f ds := Eq.trans rfl rfl
@[simp] theorem z45c_e (f : FuncId) (hs : List (Nat × O)) (ds : List D) : z45c.e f hs ds = callOfE noE f hs ds := Eq.trans rfl rfl
@[simp] theorem z45c_g (g : Nat) : z45c.g g = gl g := Eq.trans rfl rfl
def L_rule_isCondition (i n : Nat) (s : St) : OS := atN Tryz.prog z45c z45a 9 (bodyOf Tryz.f157) i n s
def z45h (n i : Nat) (s : St) : OS := atH Tryz.prog z45c z45a 9 (bodyOf Tryz.f157) n i s
@[simp] theorem z45h_eq (n i : Nat) (s : St) : z45h n i s = L_rule_isCondition i n (headOf (z45a.loops.lookup i) s) := rfl
def R_rule_isCondition (i : Nat) (s : St) : OS := stepL Tryz.prog z45c z45a 9 (bodyOf Tryz.f157) i s
theorem z45k : okLoops (bodyOf Tryz.f157) = true := by kernel_rfl
def F_rule_isCondition (ds : List D) : Option D := runF Tryz.prog z45c z45a 9 (bodyOf Tryz.f157) [.tmp 2] ds
theorem F_rule_isCondition_eq (ds : List D) : F_rule_isCondition ds = runG Tryz.prog z45c (z45h bigL) z45a 9 (bodyOf Tryz.f157) [.tmp 2] ds := runG_eq z45k _ ds
theorem C_rule_isCondition (ds : List D) (r : D) (h : F_rule_isCondition ds = some r) : Contract Tryz.prog gl 157 ds r := contract_of mix Tryz.func157 rfl (by kernel_rfl) (by kernel_rfl) (by decide) (call := z45c) ⟨callOf_ok z45b trivial, callOfE_ok noE trivial⟩ h
attribute [simp] Tryz.f197
def z46a : Ann := ⟨[2], [], [], [], [], some [2], [], [], [(64, 0, 92, 2)], []⟩
@[simp] theorem z46a_draws : z46a.draws = [] := rfl
@[simp] theorem z46a_exits : z46a.exits = [] := rfl
@[simp] theorem z46a_rets : z46a.rets = some [2] := rfl
@[simp] theorem z46a_keep : z46a.keep = [2] := rfl
@[simp] theorem z46a_cond : z46a.cond = [] := rfl
@[simp] theorem z46a_rows : z46a.rows = [] := rfl
@[simp] theorem z46a_loops : z46a.loops = [] := rfl
@[simp] theorem z46a_ecalls : z46a.ecalls = [] := rfl
@[simp] theorem z46a_crows : z46a.crows = [(64, 0, 92, 2)] := rfl
@[simp] theorem z46a_tails : z46a.tails = [] := rfl
@[simp] def z46b : PL := []
def z46c : CT := ⟨callOf (z46b ), callOfE noE, gl⟩
@[simp] theorem z46c_p (f : FuncId) (ds : List D) : z46c.p f ds = callOf (z46b ) f ds := Eq.trans rfl rfl
@[simp] theorem z46c_e (f : FuncId) (hs : List (Nat × O)) (ds : List D) : z46c.e f hs ds = callOfE noE f hs ds := Eq.trans rfl rfl
@[simp] theorem z46c_g (g : Nat) : z46c.g g = gl g := Eq.trans rfl rfl
def L_rule_takesConditions (i n : Nat) (s : St) : OS := atN Tryz.prog z46c z46a 13 (bodyOf Tryz.f197) i n s
def z46h (n i : Nat) (s : St) : OS := atH Tryz.prog z46c z46a 13 (bodyOf Tryz.f197) n i s
@[simp] theorem z46h_eq (n i : Nat) (s : St) : z46h n i s = L_rule_takesConditions i n (headOf (z46a.loops.lookup i) s) := rfl
def R_rule_takesConditions (i : Nat) (s : St) : OS := stepL Tryz.prog z46c z46a 13 (bodyOf Tryz.f197) i s
theorem z46k : okLoops (bodyOf Tryz.f197) = true := by kernel_rfl
def F_rule_takesConditions (ds : List D) : Option D := runF Tryz.prog z46c z46a 13 (bodyOf Tryz.f197) [.tmp 2] ds
theorem F_rule_takesConditions_eq (ds : List D) : F_rule_takesConditions ds = runG Tryz.prog z46c (z46h bigL) z46a 13 (bodyOf Tryz.f197) [.tmp 2] ds := runG_eq z46k _ ds
theorem C_rule_takesConditions (ds : List D) (r : D) (h : F_rule_takesConditions ds = some r) : Contract Tryz.prog gl 197 ds r := contract_of mix Tryz.func197 rfl (by kernel_rfl) (by kernel_rfl) (by decide) (call := z46c) ⟨callOf_ok z46b trivial, callOfE_ok noE trivial⟩ h
attribute [simp] Tryz.f156
def z47a : Ann := ⟨[1, 2, 3, 6, 8, 9, 11, 15, 16, 17, 85, 86, 87], [13, 18, 27, 37, 64, 74, 83, 88, 97], [], [(4, [1, 2, 3, 15, 16, 17]), (19, [3, 85, 86, 87])], [(0, [1, 3]), (1, [1, 2, 3, 15, 16, 17]), (2, []), (3, [3, 85, 86, 87])], some [6], [(12, 25), (21, 5)], [], [(64, 0, 92, 2)], []⟩
@[simp] theorem z47a_draws : z47a.draws = [(12, 25), (21, 5)] := rfl
@[simp] theorem z47a_exits : z47a.exits = [(0, [1, 3]), (1, [1, 2, 3, 15, 16, 17]), (2, []), (3, [3, 85, 86, 87])] := rfl
@[simp] theorem z47a_rets : z47a.rets = some [6] := rfl
@[simp] theorem z47a_keep : z47a.keep = [1, 2, 3, 6, 8, 9, 11, 15, 16, 17, 85, 86, 87] := rfl
@[simp] theorem z47a_cond : z47a.cond = [13, 18, 27, 37, 64, 74, 83, 88, 97] := rfl
@[simp] theorem z47a_rows : z47a.rows = [] := rfl
@[simp] theorem z47a_loops : z47a.loops = [(4, [1, 2, 3, 15, 16, 17]), (19, [3, 85, 86, 87])] := rfl
@[simp] theorem z47a_ecalls : z47a.ecalls = [] := rfl
@[simp] theorem z47a_crows : z47a.crows = [(64, 0, 92, 2)] := rfl
@[simp] theorem z47a_tails : z47a.tails = [] := rfl
@[simp] def z47b (self : List D → Option D) : PL := [(156, self), (157, F_rule_isCondition), (161, F_rule_bounded), (195, F_rule_takes), (196, F_slices_Contains_string_string), (197, F_rule_takesConditions)]
def z47c (self : List D → Option D) : CT := ⟨callOf (z47b self ), callOfE noE, gl⟩
@[simp] theorem z47c_p (self : List D → Option D) (f : FuncId) (ds : List D) : (z47c self).p f ds = callOf (z47b self ) f ds := Eq.trans rfl rfl
@[simp] theorem z47c_e (self : List D → Option D) (f : FuncId) (hs : List (Nat × O)) (ds : List D) : (z47c self).e f hs ds = callOfE noE f hs ds := Eq.trans rfl rfl
@[simp] theorem z47c_g (self : List D → Option D) (g : Nat) : (z47c self).g g = gl g := Eq.trans rfl rfl
def L_rule_visit (self : List D → Option D) (i n : Nat) (s : St) : OS := atN Tryz.prog (z47c self) z47a 99 (bodyOf Tryz.f156) i n s
def z47h (self : List D → Option D) (n i : Nat) (s : St) : OS := atH Tryz.prog (z47c self) z47a 99 (bodyOf Tryz.f156) n i s
@[simp] theorem z47h_eq (self : List D → Option D) (n i : Nat) (s : St) : z47h self n i s = L_rule_visit self i n (headOf (z47a.loops.lookup i) s) := rfl
def R_rule_visit (self : List D → Option D) (i : Nat) (s : St) : OS := stepL Tryz.prog (z47c self) z47a 99 (bodyOf Tryz.f156) i s
theorem z47k : okLoops (bodyOf Tryz.f156) = true := by kernel_rfl
theorem L_rule_visit_zero (self : List D → Option D) (i : Nat) (s : St) : L_rule_visit self i 0 s = none := rfl
theorem L_rule_visit_succ (self : List D → Option D) (i n : Nat) (s : St) : L_rule_visit self i (n + 1) s = andThen (R_rule_visit self i s) (z47h self n i) := atN_succ z47k i n s
theorem R_rule_visit_eq (self : List D → Option D) (i : Nat) (s : St) : R_rule_visit self i s = runS Tryz.prog (z47c self) (z47h self bigL) z47a 99 (loopAt (bodyOf Tryz.f156) i) s := rfl
def FN_rule_visit : Nat → List D → Option D
  | 0 => fun _ => none
  | n + 1 => fun ds => runF Tryz.prog (z47c (FN_rule_visit n)) z47a 99 (bodyOf Tryz.f156) [.tmp 6] ds
theorem FN_rule_visit_eq (n : Nat) (ds : List D) : FN_rule_visit (n + 1) ds = runG Tryz.prog (z47c (FN_rule_visit n)) (z47h (FN_rule_visit n) bigL) z47a 99 (bodyOf Tryz.f156) [.tmp 6] ds := runG_eq z47k _ ds
theorem CN_rule_visit : ∀ (n : Nat) (ds : List D) (r : D), FN_rule_visit n ds = some r → Contract Tryz.prog gl 156 ds r
  | 0, _, _, h => by cases h
  | n + 1, ds, r, h => by
    have ih := CN_rule_visit n
    exact contract_of mix Tryz.func156 rfl (by kernel_rfl) (by kernel_rfl) (by decide) (call := z47c (FN_rule_visit n)) ⟨callOf_ok (z47b (FN_rule_visit n)) ⟨ih, C_rule_isCondition, C_rule_bounded, C_rule_takes, C_slices_Contains_string_string, C_rule_takesConditions, trivial⟩, callOfE_ok noE trivial⟩ h
def F_rule_visit (ds : List D) : Option D := FN_rule_visit 1000 ds
theorem C_rule_visit (ds : List D) (r : D) (h : F_rule_visit ds = some r) : Contract Tryz.prog gl 156 ds r := CN_rule_visit 1000 ds r h
attribute [simp] Tryz.f100
def z48a : Ann := ⟨[2, 4, 5], [10, 15], [], [], [], some [4], [], [], [(64, 0, 92, 2)], []⟩
@[simp] theorem z48a_draws : z48a.draws = [] := rfl
@[simp] theorem z48a_exits : z48a.exits = [] := rfl
@[simp] theorem z48a_rets : z48a.rets = some [4] := rfl
@[simp] theorem z48a_keep : z48a.keep = [2, 4, 5] := rfl
@[simp] theorem z48a_cond : z48a.cond = [10, 15] := rfl
@[simp] theorem z48a_rows : z48a.rows = [] := rfl
@[simp] theorem z48a_loops : z48a.loops = [] := rfl
@[simp] theorem z48a_ecalls : z48a.ecalls = [] := rfl
@[simp] theorem z48a_crows : z48a.crows = [(64, 0, 92, 2)] := rfl
@[simp] theorem z48a_tails : z48a.tails = [] := rfl
@[simp] def z48b : PL := [(156, F_rule_visit), (157, F_rule_isCondition)]
def z48c : CT := ⟨callOf (z48b ), callOfE noE, gl⟩
@[simp] theorem z48c_p (f : FuncId) (ds : List D) : z48c.p f ds = callOf (z48b ) f ds := Eq.trans rfl rfl
@[simp] theorem z48c_e (f : FuncId) (hs : List (Nat × O)) (ds : List D) : z48c.e f hs ds = callOfE noE f hs ds := Eq.trans rfl rfl
@[simp] theorem z48c_g (g : Nat) : z48c.g g = gl g := Eq.trans rfl rfl
def L_rule_Check (i n : Nat) (s : St) : OS := atN Tryz.prog z48c z48a 16 (bodyOf Tryz.f100) i n s
def z48h (n i : Nat) (s : St) : OS := atH Tryz.prog z48c z48a 16 (bodyOf Tryz.f100) n i s
@[simp] theorem z48h_eq (n i : Nat) (s : St) : z48h n i s = L_rule_Check i n (headOf (z48a.loops.lookup i) s) := rfl
def R_rule_Check (i : Nat) (s : St) : OS := stepL Tryz.prog z48c z48a 16 (bodyOf Tryz.f100) i s
theorem z48k : okLoops (bodyOf Tryz.f100) = true := by kernel_rfl
def F_rule_Check (ds : List D) : Option D := runF Tryz.prog z48c z48a 16 (bodyOf Tryz.f100) [.tmp 4] ds
theorem F_rule_Check_eq (ds : List D) : F_rule_Check ds = runG Tryz.prog z48c (z48h bigL) z48a 16 (bodyOf Tryz.f100) [.tmp 4] ds := runG_eq z48k _ ds
theorem C_rule_Check (ds : List D) (r : D) (h : F_rule_Check ds = some r) : Contract Tryz.prog gl 100 ds r := contract_of mix Tryz.func100 rfl (by kernel_rfl) (by kernel_rfl) (by decide) (call := z48c) ⟨callOf_ok z48b ⟨C_rule_visit, C_rule_isCondition, trivial⟩, callOfE_ok noE trivial⟩ h
attribute [simp] Tryz.f47
def z49a : Ann := ⟨[0, 4, 6, 7, 11, 12, 13], [10, 14, 24, 30], [], [(4, [1, 11, 12, 13])], [(0, []), (1, [1, 11, 12, 13])], some [4], [], [], [(64, 0, 92, 2)], []⟩
@[simp] theorem z49a_draws : z49a.draws = [] := rfl
@[simp] theorem z49a_exits : z49a.exits = [(0, []), (1, [1, 11, 12, 13])] := rfl
@[simp] theorem z49a_rets : z49a.rets = some [4] := rfl
@[simp] theorem z49a_keep : z49a.keep = [0, 4, 6, 7, 11, 12, 13] := rfl
@[simp] theorem z49a_cond : z49a.cond = [10, 14, 24, 30] := rfl
@[simp] theorem z49a_rows : z49a.rows = [] := rfl
@[simp] theorem z49a_loops : z49a.loops = [(4, [1, 11, 12, 13])] := rfl
@[simp] theorem z49a_ecalls : z49a.ecalls = [] := rfl
@[simp] theorem z49a_crows : z49a.crows = [(64, 0, 92, 2)] := rfl
@[simp] theorem z49a_tails : z49a.tails = [] := rfl
@[simp] def z49b : PL := [(100, F_rule_Check)]
def z49c : CT := ⟨callOf (z49b ), callOfE noE, gl⟩
@[simp] theorem z49c_p (f : FuncId) (ds : List D) : z49c.p f ds = callOf (z49b ) f ds := Eq.trans rfl rfl
@[simp] theorem z49c_e (f : FuncId) (hs : List (Nat × O)) (ds : List D) : z49c.e f hs ds = callOfE noE f hs ds := Eq.trans rfl rfl
@[simp] theorem z49c_g (g : Nat) : z49c.g g = gl g := Eq.trans rfl rfl
def L_rule_CheckRules (i n : Nat) (s : St) : OS := atN Tryz.prog z49c z49a 33 (bodyOf Tryz.f47) i n s
def z49h (n i : Nat) (s : St) : OS := atH Tryz.prog z49c z49a 33 (bodyOf Tryz.f47) n i s
@[simp] theorem z49h_eq (n i : Nat) (s : St) : z49h n i s = L_rule_CheckRules i n (headOf (z49a.loops.lookup i) s) := rfl
def R_rule_CheckRules (i : Nat) (s : St) : OS := stepL Tryz.prog z49c z49a 33 (bodyOf Tryz.f47) i s
theorem z49k : okLoops (bodyOf Tryz.f47) = true := by kernel_rfl
theorem L_rule_CheckRules_zero (i : Nat) (s : St) : L_rule_CheckRules i 0 s = none := rfl
theorem L_rule_CheckRules_succ (i n : Nat) (s : St) : L_rule_CheckRules i (n + 1) s = andThen (R_rule_CheckRules i s) (z49h n i) := atN_succ z49k i n s
theorem R_rule_CheckRules_eq (i : Nat) (s : St) : R_rule_CheckRules i s = runS Tryz.prog z49c (z49h bigL) z49a 33 (loopAt (bodyOf Tryz.f47) i) s := rfl
def F_rule_CheckRules (ds : List D) : Option D := runF Tryz.prog z49c z49a 33 (bodyOf Tryz.f47) [.tmp 4] ds
theorem F_rule_CheckRules_eq (ds : List D) : F_rule_CheckRules ds = runG Tryz.prog z49c (z49h bigL) z49a 33 (bodyOf Tryz.f47) [.tmp 4] ds := runG_eq z49k _ ds
theorem C_rule_CheckRules (ds : List D) (r : D) (h : F_rule_CheckRules ds = some r) : Contract Tryz.prog gl 47 ds r := contract_of mix Tryz.func47 rfl (by kernel_rfl) (by kernel_rfl) (by decide) (call := z49c) ⟨callOf_ok z49b ⟨C_rule_Check, trivial⟩, callOfE_ok noE trivial⟩ h
attribute [simp] Tryz.f21
def z50a : Ann := ⟨[1, 4, 6, 8, 9, 10, 11], [15, 21, 27, 32], [], [], [], some [8], [], [], [(64, 0, 92, 2)], []⟩
@[simp] theorem z50a_draws : z50a.draws = [] := rfl
@[simp] theorem z50a_exits : z50a.exits = [] := rfl
@[simp] theorem z50a_rets : z50a.rets = some [8] := rfl
@[simp] theorem z50a_keep : z50a.keep = [1, 4, 6, 8, 9, 10, 11] := rfl
@[simp] theorem z50a_cond : z50a.cond = [15, 21, 27, 32] := rfl
@[simp] theorem z50a_rows : z50a.rows = [] := rfl
@[simp] theorem z50a_loops : z50a.loops = [] := rfl
@[simp] theorem z50a_ecalls : z50a.ecalls = [] := rfl
@[simp] theorem z50a_crows : z50a.crows = [(64, 0, 92, 2)] := rfl
@[simp] theorem z50a_tails : z50a.tails = [] := rfl
@[simp] def z50b : PL := [(44, F_product_Check), (45, F_board_Check), (46, F_wood_Check), (47, F_rule_CheckRules), (48, F_feature_Names)]
def z50c : CT := ⟨callOf (z50b ), callOfE noE, gl⟩
@[simp] theorem z50c_p (f : FuncId) (ds : List D) : z50c.p f ds = callOf (z50b ) f ds := Eq.trans rfl rfl
@[simp] theorem z50c_e (f : FuncId) (hs : List (Nat × O)) (ds : List D) : z50c.e f hs ds = callOfE noE f hs ds := Eq.trans rfl rfl
@[simp] theorem z50c_g (g : Nat) : z50c.g g = gl g := Eq.trans rfl rfl
def L_grading_check (i n : Nat) (s : St) : OS := atN Tryz.prog z50c z50a 37 (bodyOf Tryz.f21) i n s
def z50h (n i : Nat) (s : St) : OS := atH Tryz.prog z50c z50a 37 (bodyOf Tryz.f21) n i s
@[simp] theorem z50h_eq (n i : Nat) (s : St) : z50h n i s = L_grading_check i n (headOf (z50a.loops.lookup i) s) := rfl
def R_grading_check (i : Nat) (s : St) : OS := stepL Tryz.prog z50c z50a 37 (bodyOf Tryz.f21) i s
theorem z50k : okLoops (bodyOf Tryz.f21) = true := by kernel_rfl
def F_grading_check (ds : List D) : Option D := runF Tryz.prog z50c z50a 37 (bodyOf Tryz.f21) [.tmp 8] ds
theorem F_grading_check_eq (ds : List D) : F_grading_check ds = runG Tryz.prog z50c (z50h bigL) z50a 37 (bodyOf Tryz.f21) [.tmp 8] ds := runG_eq z50k _ ds
theorem C_grading_check (ds : List D) (r : D) (h : F_grading_check ds = some r) : Contract Tryz.prog gl 21 ds r := contract_of mix Tryz.func21 rfl (by kernel_rfl) (by kernel_rfl) (by decide) (call := z50c) ⟨callOf_ok z50b ⟨C_product_Check, C_board_Check, C_wood_Check, C_rule_CheckRules, C_feature_Names, trivial⟩, callOfE_ok noE trivial⟩ h
attribute [simp] Tryz.f49
def z51a : Ann := ⟨[], [], [4], [], [], some [], [(0, 9)], [], [(64, 0, 92, 2)], []⟩
@[simp] theorem z51a_draws : z51a.draws = [(0, 9)] := rfl
@[simp] theorem z51a_exits : z51a.exits = [] := rfl
@[simp] theorem z51a_rets : z51a.rets = some [] := rfl
@[simp] theorem z51a_keep : z51a.keep = [] := rfl
@[simp] theorem z51a_cond : z51a.cond = [] := rfl
@[simp] theorem z51a_rows : z51a.rows = [4] := rfl
@[simp] theorem z51a_loops : z51a.loops = [] := rfl
@[simp] theorem z51a_ecalls : z51a.ecalls = [] := rfl
@[simp] theorem z51a_crows : z51a.crows = [(64, 0, 92, 2)] := rfl
@[simp] theorem z51a_tails : z51a.tails = [] := rfl
@[simp] def z51b : PL := []
def z51c : CT := ⟨callOf (z51b ), callOfE noE, gl⟩
@[simp] theorem z51c_p (f : FuncId) (ds : List D) : z51c.p f ds = callOf (z51b ) f ds := Eq.trans rfl rfl
@[simp] theorem z51c_e (f : FuncId) (hs : List (Nat × O)) (ds : List D) : z51c.e f hs ds = callOfE noE f hs ds := Eq.trans rfl rfl
@[simp] theorem z51c_g (g : Nat) : z51c.g g = gl g := Eq.trans rfl rfl
def L_feature_Of_1 (i n : Nat) (s : St) : OS := atN Tryz.prog z51c z51a 14 (bodyOf Tryz.f49) i n s
def z51h (n i : Nat) (s : St) : OS := atH Tryz.prog z51c z51a 14 (bodyOf Tryz.f49) n i s
@[simp] theorem z51h_eq (n i : Nat) (s : St) : z51h n i s = L_feature_Of_1 i n (headOf (z51a.loops.lookup i) s) := rfl
def R_feature_Of_1 (i : Nat) (s : St) : OS := stepL Tryz.prog z51c z51a 14 (bodyOf Tryz.f49) i s
theorem z51k : okLoops (bodyOf Tryz.f49) = true := by kernel_rfl
def E_feature_Of_1 (hs : List (Nat × O)) (ds : List D) : Option (D × List (Nat × O)) := runE Tryz.prog z51c z51a 14 (bodyOf Tryz.f49) [] hs ds
theorem E_feature_Of_1_eq (hs : List (Nat × O)) (ds : List D) : E_feature_Of_1 hs ds = runGE Tryz.prog z51c (z51h bigL) z51a 14 (bodyOf Tryz.f49) [] hs ds := runGE_eq z51k _ hs ds
theorem CE_feature_Of_1 (hs : List (Nat × O)) (ds : List D) (r : D) (hs' : List (Nat × O)) (h : E_feature_Of_1 hs ds = some (r, hs')) : ContractE Tryz.prog gl 49 hs ds r hs' := contractE_of mix Tryz.func49 rfl (by kernel_rfl) (by kernel_rfl) (by decide) (call := z51c) ⟨callOf_ok z51b trivial, callOfE_ok noE trivial⟩ h
attribute [simp] Tryz.f50
def z52a : Ann := ⟨[1, 2], [7], [], [], [], some [2], [], [], [(64, 0, 92, 2)], []⟩
@[simp] theorem z52a_draws : z52a.draws = [] := rfl
@[simp] theorem z52a_exits : z52a.exits = [] := rfl
@[simp] theorem z52a_rets : z52a.rets = some [2] := rfl
@[simp] theorem z52a_keep : z52a.keep = [1, 2] := rfl
@[simp] theorem z52a_cond : z52a.cond = [7] := rfl
@[simp] theorem z52a_rows : z52a.rows = [] := rfl
@[simp] theorem z52a_loops : z52a.loops = [] := rfl
@[simp] theorem z52a_ecalls : z52a.ecalls = [] := rfl
@[simp] theorem z52a_crows : z52a.crows = [(64, 0, 92, 2)] := rfl
@[simp] theorem z52a_tails : z52a.tails = [] := rfl
@[simp] def z52b : PL := [(91, F_board_length), (101, F_board_isAlong)]
def z52c : CT := ⟨callOf (z52b ), callOfE noE, gl⟩
@[simp] theorem z52c_p (f : FuncId) (ds : List D) : z52c.p f ds = callOf (z52b ) f ds := Eq.trans rfl rfl
@[simp] theorem z52c_e (f : FuncId) (hs : List (Nat × O)) (ds : List D) : z52c.e f hs ds = callOfE noE f hs ds := Eq.trans rfl rfl
@[simp] theorem z52c_g (g : Nat) : z52c.g g = gl g := Eq.trans rfl rfl
def L_board_Length (i n : Nat) (s : St) : OS := atN Tryz.prog z52c z52a 12 (bodyOf Tryz.f50) i n s
def z52h (n i : Nat) (s : St) : OS := atH Tryz.prog z52c z52a 12 (bodyOf Tryz.f50) n i s
@[simp] theorem z52h_eq (n i : Nat) (s : St) : z52h n i s = L_board_Length i n (headOf (z52a.loops.lookup i) s) := rfl
def R_board_Length (i : Nat) (s : St) : OS := stepL Tryz.prog z52c z52a 12 (bodyOf Tryz.f50) i s
theorem z52k : okLoops (bodyOf Tryz.f50) = true := by kernel_rfl
def F_board_Length (ds : List D) : Option D := runF Tryz.prog z52c z52a 12 (bodyOf Tryz.f50) [.tmp 2] ds
theorem F_board_Length_eq (ds : List D) : F_board_Length ds = runG Tryz.prog z52c (z52h bigL) z52a 12 (bodyOf Tryz.f50) [.tmp 2] ds := runG_eq z52k _ ds
theorem C_board_Length (ds : List D) (r : D) (h : F_board_Length ds = some r) : Contract Tryz.prog gl 50 ds r := contract_of mix Tryz.func50 rfl (by kernel_rfl) (by kernel_rfl) (by decide) (call := z52c) ⟨callOf_ok z52b ⟨C_board_length, C_board_isAlong, trivial⟩, callOfE_ok noE trivial⟩ h
attribute [simp] Tryz.f51
def z53a : Ann := ⟨[4, 5, 7, 8, 9, 10], [11, 17], [], [(3, [1, 5, 8, 9, 10])], [(0, [5]), (1, [1, 5, 8, 9, 10])], some [4], [], [], [(64, 0, 92, 2)], []⟩
@[simp] theorem z53a_draws : z53a.draws = [] := rfl
@[simp] theorem z53a_exits : z53a.exits = [(0, [5]), (1, [1, 5, 8, 9, 10])] := rfl
@[simp] theorem z53a_rets : z53a.rets = some [4] := rfl
@[simp] theorem z53a_keep : z53a.keep = [4, 5, 7, 8, 9, 10] := rfl
@[simp] theorem z53a_cond : z53a.cond = [11, 17] := rfl
@[simp] theorem z53a_rows : z53a.rows = [] := rfl
@[simp] theorem z53a_loops : z53a.loops = [(3, [1, 5, 8, 9, 10])] := rfl
@[simp] theorem z53a_ecalls : z53a.ecalls = [] := rfl
@[simp] theorem z53a_crows : z53a.crows = [(64, 0, 92, 2)] := rfl
@[simp] theorem z53a_tails : z53a.tails = [] := rfl
@[simp] def z53b : PL := []
def z53c : CT := ⟨callOf (z53b ), callOfE noE, gl⟩
@[simp] theorem z53c_p (f : FuncId) (ds : List D) : z53c.p f ds = callOf (z53b ) f ds := Eq.trans rfl rfl
@[simp] theorem z53c_e (f : FuncId) (hs : List (Nat × O)) (ds : List D) : z53c.e f hs ds = callOfE noE f hs ds := Eq.trans rfl rfl
@[simp] theorem z53c_g (g : Nat) : z53c.g g = gl g := Eq.trans rfl rfl
def L_defect_Count (i n : Nat) (s : St) : OS := atN Tryz.prog z53c z53a 22 (bodyOf Tryz.f51) i n s
def z53h (n i : Nat) (s : St) : OS := atH Tryz.prog z53c z53a 22 (bodyOf Tryz.f51) n i s
@[simp] theorem z53h_eq (n i : Nat) (s : St) : z53h n i s = L_defect_Count i n (headOf (z53a.loops.lookup i) s) := rfl
def R_defect_Count (i : Nat) (s : St) : OS := stepL Tryz.prog z53c z53a 22 (bodyOf Tryz.f51) i s
theorem z53k : okLoops (bodyOf Tryz.f51) = true := by kernel_rfl
theorem L_defect_Count_zero (i : Nat) (s : St) : L_defect_Count i 0 s = none := rfl
theorem L_defect_Count_succ (i n : Nat) (s : St) : L_defect_Count i (n + 1) s = andThen (R_defect_Count i s) (z53h n i) := atN_succ z53k i n s
theorem R_defect_Count_eq (i : Nat) (s : St) : R_defect_Count i s = runS Tryz.prog z53c (z53h bigL) z53a 22 (loopAt (bodyOf Tryz.f51) i) s := rfl
def F_defect_Count (ds : List D) : Option D := runF Tryz.prog z53c z53a 22 (bodyOf Tryz.f51) [.tmp 4] ds
theorem F_defect_Count_eq (ds : List D) : F_defect_Count ds = runG Tryz.prog z53c (z53h bigL) z53a 22 (bodyOf Tryz.f51) [.tmp 4] ds := runG_eq z53k _ ds
theorem C_defect_Count (ds : List D) (r : D) (h : F_defect_Count ds = some r) : Contract Tryz.prog gl 51 ds r := contract_of mix Tryz.func51 rfl (by kernel_rfl) (by kernel_rfl) (by decide) (call := z53c) ⟨callOf_ok z53b trivial, callOfE_ok noE trivial⟩ h
attribute [simp] Tryz.f199
def z54a : Ann := ⟨[1, 2], [7], [], [], [], some [2], [], [], [(64, 0, 92, 2)], []⟩
@[simp] theorem z54a_draws : z54a.draws = [] := rfl
@[simp] theorem z54a_exits : z54a.exits = [] := rfl
@[simp] theorem z54a_rets : z54a.rets = some [2] := rfl
@[simp] theorem z54a_keep : z54a.keep = [1, 2] := rfl
@[simp] theorem z54a_cond : z54a.cond = [7] := rfl
@[simp] theorem z54a_rows : z54a.rows = [] := rfl
@[simp] theorem z54a_loops : z54a.loops = [] := rfl
@[simp] theorem z54a_ecalls : z54a.ecalls = [] := rfl
@[simp] theorem z54a_crows : z54a.crows = [(64, 0, 92, 2)] := rfl
@[simp] theorem z54a_tails : z54a.tails = [] := rfl
@[simp] def z54b : PL := []
def z54c : CT := ⟨callOf (z54b ), callOfE noE, gl⟩
@[simp] theorem z54c_p (f : FuncId) (ds : List D) : z54c.p f ds = callOf (z54b ) f ds := Eq.trans rfl rfl
@[simp] theorem z54c_e (f : FuncId) (hs : List (Nat × O)) (ds : List D) : z54c.e f hs ds = callOfE noE f hs ds := Eq.trans rfl rfl
@[simp] theorem z54c_g (g : Nat) : z54c.g g = gl g := Eq.trans rfl rfl
def L_span_size (i n : Nat) (s : St) : OS := atN Tryz.prog z54c z54a 15 (bodyOf Tryz.f199) i n s
def z54h (n i : Nat) (s : St) : OS := atH Tryz.prog z54c z54a 15 (bodyOf Tryz.f199) n i s
@[simp] theorem z54h_eq (n i : Nat) (s : St) : z54h n i s = L_span_size i n (headOf (z54a.loops.lookup i) s) := rfl
def R_span_size (i : Nat) (s : St) : OS := stepL Tryz.prog z54c z54a 15 (bodyOf Tryz.f199) i s
theorem z54k : okLoops (bodyOf Tryz.f199) = true := by kernel_rfl
def F_span_size (ds : List D) : Option D := runF Tryz.prog z54c z54a 15 (bodyOf Tryz.f199) [.tmp 2] ds
theorem F_span_size_eq (ds : List D) : F_span_size ds = runG Tryz.prog z54c (z54h bigL) z54a 15 (bodyOf Tryz.f199) [.tmp 2] ds := runG_eq z54k _ ds
theorem C_span_size (ds : List D) (r : D) (h : F_span_size ds = some r) : Contract Tryz.prog gl 199 ds r := contract_of mix Tryz.func199 rfl (by kernel_rfl) (by kernel_rfl) (by decide) (call := z54c) ⟨callOf_ok z54b trivial, callOfE_ok noE trivial⟩ h
attribute [simp] Tryz.f198
def z55a : Ann := ⟨[2], [], [], [], [], some [2], [], [], [(64, 0, 92, 2)], []⟩
@[simp] theorem z55a_draws : z55a.draws = [] := rfl
@[simp] theorem z55a_exits : z55a.exits = [] := rfl
@[simp] theorem z55a_rets : z55a.rets = some [2] := rfl
@[simp] theorem z55a_keep : z55a.keep = [2] := rfl
@[simp] theorem z55a_cond : z55a.cond = [] := rfl
@[simp] theorem z55a_rows : z55a.rows = [] := rfl
@[simp] theorem z55a_loops : z55a.loops = [] := rfl
@[simp] theorem z55a_ecalls : z55a.ecalls = [] := rfl
@[simp] theorem z55a_crows : z55a.crows = [(64, 0, 92, 2)] := rfl
@[simp] theorem z55a_tails : z55a.tails = [] := rfl
@[simp] def z55b : PL := []
def z55c : CT := ⟨callOf (z55b ), callOfE noE, gl⟩
@[simp] theorem z55c_p (f : FuncId) (ds : List D) : z55c.p f ds = callOf (z55b ) f ds := Eq.trans rfl rfl
@[simp] theorem z55c_e (f : FuncId) (hs : List (Nat × O)) (ds : List D) : z55c.e f hs ds = callOfE noE f hs ds := Eq.trans rfl rfl
@[simp] theorem z55c_g (g : Nat) : z55c.g g = gl g := Eq.trans rfl rfl
def L_span_limited (i n : Nat) (s : St) : OS := atN Tryz.prog z55c z55a 6 (bodyOf Tryz.f198) i n s
def z55h (n i : Nat) (s : St) : OS := atH Tryz.prog z55c z55a 6 (bodyOf Tryz.f198) n i s
@[simp] theorem z55h_eq (n i : Nat) (s : St) : z55h n i s = L_span_limited i n (headOf (z55a.loops.lookup i) s) := rfl
def R_span_limited (i : Nat) (s : St) : OS := stepL Tryz.prog z55c z55a 6 (bodyOf Tryz.f198) i s
theorem z55k : okLoops (bodyOf Tryz.f198) = true := by kernel_rfl
def F_span_limited (ds : List D) : Option D := runF Tryz.prog z55c z55a 6 (bodyOf Tryz.f198) [.tmp 2] ds
theorem F_span_limited_eq (ds : List D) : F_span_limited ds = runG Tryz.prog z55c (z55h bigL) z55a 6 (bodyOf Tryz.f198) [.tmp 2] ds := runG_eq z55k _ ds
theorem C_span_limited (ds : List D) (r : D) (h : F_span_limited ds = some r) : Contract Tryz.prog gl 198 ds r := contract_of mix Tryz.func198 rfl (by kernel_rfl) (by kernel_rfl) (by decide) (call := z55c) ⟨callOf_ok z55b trivial, callOfE_ok noE trivial⟩ h
attribute [simp] Tryz.f158
def z56a : Ann := ⟨[1, 2], [], [], [], [], some [2], [], [], [(64, 0, 92, 2)], []⟩
@[simp] theorem z56a_draws : z56a.draws = [] := rfl
@[simp] theorem z56a_exits : z56a.exits = [] := rfl
@[simp] theorem z56a_rets : z56a.rets = some [2] := rfl
@[simp] theorem z56a_keep : z56a.keep = [1, 2] := rfl
@[simp] theorem z56a_cond : z56a.cond = [] := rfl
@[simp] theorem z56a_rows : z56a.rows = [] := rfl
@[simp] theorem z56a_loops : z56a.loops = [] := rfl
@[simp] theorem z56a_ecalls : z56a.ecalls = [] := rfl
@[simp] theorem z56a_crows : z56a.crows = [(64, 0, 92, 2)] := rfl
@[simp] theorem z56a_tails : z56a.tails = [] := rfl
@[simp] def z56b : PL := [(198, F_span_limited), (199, F_span_size)]
def z56c : CT := ⟨callOf (z56b ), callOfE noE, gl⟩
@[simp] theorem z56c_p (f : FuncId) (ds : List D) : z56c.p f ds = callOf (z56b ) f ds := Eq.trans rfl rfl
@[simp] theorem z56c_e (f : FuncId) (hs : List (Nat × O)) (ds : List D) : z56c.e f hs ds = callOfE noE f hs ds := Eq.trans rfl rfl
@[simp] theorem z56c_g (g : Nat) : z56c.g g = gl g := Eq.trans rfl rfl
def L_span_Len (i n : Nat) (s : St) : OS := atN Tryz.prog z56c z56a 6 (bodyOf Tryz.f158) i n s
def z56h (n i : Nat) (s : St) : OS := atH Tryz.prog z56c z56a 6 (bodyOf Tryz.f158) n i s
@[simp] theorem z56h_eq (n i : Nat) (s : St) : z56h n i s = L_span_Len i n (headOf (z56a.loops.lookup i) s) := rfl
def R_span_Len (i : Nat) (s : St) : OS := stepL Tryz.prog z56c z56a 6 (bodyOf Tryz.f158) i s
theorem z56k : okLoops (bodyOf Tryz.f158) = true := by kernel_rfl
def F_span_Len (ds : List D) : Option D := runF Tryz.prog z56c z56a 6 (bodyOf Tryz.f158) [.tmp 2] ds
theorem F_span_Len_eq (ds : List D) : F_span_Len ds = runG Tryz.prog z56c (z56h bigL) z56a 6 (bodyOf Tryz.f158) [.tmp 2] ds := runG_eq z56k _ ds
theorem C_span_Len (ds : List D) (r : D) (h : F_span_Len ds = some r) : Contract Tryz.prog gl 158 ds r := contract_of mix Tryz.func158 rfl (by kernel_rfl) (by kernel_rfl) (by decide) (call := z56c) ⟨callOf_ok z56b ⟨C_span_limited, C_span_size, trivial⟩, callOfE_ok noE trivial⟩ h
attribute [simp] Tryz.f102
def z57a : Ann := ⟨[1, 2], [], [], [], [], some [2], [(1, 7)], [], [(64, 0, 92, 2)], []⟩
@[simp] theorem z57a_draws : z57a.draws = [(1, 7)] := rfl
@[simp] theorem z57a_exits : z57a.exits = [] := rfl
@[simp] theorem z57a_rets : z57a.rets = some [2] := rfl
@[simp] theorem z57a_keep : z57a.keep = [1, 2] := rfl
@[simp] theorem z57a_cond : z57a.cond = [] := rfl
@[simp] theorem z57a_rows : z57a.rows = [] := rfl
@[simp] theorem z57a_loops : z57a.loops = [] := rfl
@[simp] theorem z57a_ecalls : z57a.ecalls = [] := rfl
@[simp] theorem z57a_crows : z57a.crows = [(64, 0, 92, 2)] := rfl
@[simp] theorem z57a_tails : z57a.tails = [] := rfl
@[simp] def z57b : PL := [(158, F_span_Len)]
def z57c : CT := ⟨callOf (z57b ), callOfE noE, gl⟩
@[simp] theorem z57c_p (f : FuncId) (ds : List D) : z57c.p f ds = callOf (z57b ) f ds := Eq.trans rfl rfl
@[simp] theorem z57c_e (f : FuncId) (hs : List (Nat × O)) (ds : List D) : z57c.e f hs ds = callOfE noE f hs ds := Eq.trans rfl rfl
@[simp] theorem z57c_g (g : Nat) : z57c.g g = gl g := Eq.trans rfl rfl
def L_defect_Size (i n : Nat) (s : St) : OS := atN Tryz.prog z57c z57a 12 (bodyOf Tryz.f102) i n s
def z57h (n i : Nat) (s : St) : OS := atH Tryz.prog z57c z57a 12 (bodyOf Tryz.f102) n i s
@[simp] theorem z57h_eq (n i : Nat) (s : St) : z57h n i s = L_defect_Size i n (headOf (z57a.loops.lookup i) s) := rfl
def R_defect_Size (i : Nat) (s : St) : OS := stepL Tryz.prog z57c z57a 12 (bodyOf Tryz.f102) i s
theorem z57k : okLoops (bodyOf Tryz.f102) = true := by kernel_rfl
def F_defect_Size (ds : List D) : Option D := runF Tryz.prog z57c z57a 12 (bodyOf Tryz.f102) [.tmp 2] ds
theorem F_defect_Size_eq (ds : List D) : F_defect_Size ds = runG Tryz.prog z57c (z57h bigL) z57a 12 (bodyOf Tryz.f102) [.tmp 2] ds := runG_eq z57k _ ds
theorem C_defect_Size (ds : List D) (r : D) (h : F_defect_Size ds = some r) : Contract Tryz.prog gl 102 ds r := contract_of mix Tryz.func102 rfl (by kernel_rfl) (by kernel_rfl) (by decide) (call := z57c) ⟨callOf_ok z57b ⟨C_span_Len, trivial⟩, callOfE_ok noE trivial⟩ h
attribute [simp] Tryz.f52
def z58a : Ann := ⟨[4, 5, 7, 8, 9, 10], [11, 17], [], [(3, [1, 5, 8, 9, 10])], [(0, [5]), (1, [1, 5, 8, 9, 10])], some [4], [], [], [(64, 0, 92, 2)], []⟩
@[simp] theorem z58a_draws : z58a.draws = [] := rfl
@[simp] theorem z58a_exits : z58a.exits = [(0, [5]), (1, [1, 5, 8, 9, 10])] := rfl
@[simp] theorem z58a_rets : z58a.rets = some [4] := rfl
@[simp] theorem z58a_keep : z58a.keep = [4, 5, 7, 8, 9, 10] := rfl
@[simp] theorem z58a_cond : z58a.cond = [11, 17] := rfl
@[simp] theorem z58a_rows : z58a.rows = [] := rfl
@[simp] theorem z58a_loops : z58a.loops = [(3, [1, 5, 8, 9, 10])] := rfl
@[simp] theorem z58a_ecalls : z58a.ecalls = [] := rfl
@[simp] theorem z58a_crows : z58a.crows = [(64, 0, 92, 2)] := rfl
@[simp] theorem z58a_tails : z58a.tails = [] := rfl
@[simp] def z58b : PL := [(102, F_defect_Size)]
def z58c : CT := ⟨callOf (z58b ), callOfE noE, gl⟩
@[simp] theorem z58c_p (f : FuncId) (ds : List D) : z58c.p f ds = callOf (z58b ) f ds := Eq.trans rfl rfl
@[simp] theorem z58c_e (f : FuncId) (hs : List (Nat × O)) (ds : List D) : z58c.e f hs ds = callOfE noE f hs ds := Eq.trans rfl rfl
@[simp] theorem z58c_g (g : Nat) : z58c.g g = gl g := Eq.trans rfl rfl
def L_defect_Largest (i n : Nat) (s : St) : OS := atN Tryz.prog z58c z58a 24 (bodyOf Tryz.f52) i n s
def z58h (n i : Nat) (s : St) : OS := atH Tryz.prog z58c z58a 24 (bodyOf Tryz.f52) n i s
@[simp] theorem z58h_eq (n i : Nat) (s : St) : z58h n i s = L_defect_Largest i n (headOf (z58a.loops.lookup i) s) := rfl
def R_defect_Largest (i : Nat) (s : St) : OS := stepL Tryz.prog z58c z58a 24 (bodyOf Tryz.f52) i s
theorem z58k : okLoops (bodyOf Tryz.f52) = true := by kernel_rfl
theorem L_defect_Largest_zero (i : Nat) (s : St) : L_defect_Largest i 0 s = none := rfl
theorem L_defect_Largest_succ (i n : Nat) (s : St) : L_defect_Largest i (n + 1) s = andThen (R_defect_Largest i s) (z58h n i) := atN_succ z58k i n s
theorem R_defect_Largest_eq (i : Nat) (s : St) : R_defect_Largest i s = runS Tryz.prog z58c (z58h bigL) z58a 24 (loopAt (bodyOf Tryz.f52) i) s := rfl
def F_defect_Largest (ds : List D) : Option D := runF Tryz.prog z58c z58a 24 (bodyOf Tryz.f52) [.tmp 4] ds
theorem F_defect_Largest_eq (ds : List D) : F_defect_Largest ds = runG Tryz.prog z58c (z58h bigL) z58a 24 (bodyOf Tryz.f52) [.tmp 4] ds := runG_eq z58k _ ds
theorem C_defect_Largest (ds : List D) (r : D) (h : F_defect_Largest ds = some r) : Contract Tryz.prog gl 52 ds r := contract_of mix Tryz.func52 rfl (by kernel_rfl) (by kernel_rfl) (by decide) (call := z58c) ⟨callOf_ok z58b ⟨C_defect_Size, trivial⟩, callOfE_ok noE trivial⟩ h
attribute [simp] Tryz.f103
def z59a : Ann := ⟨[1, 2], [], [], [], [], some [2], [], [], [(64, 0, 92, 2)], []⟩
@[simp] theorem z59a_draws : z59a.draws = [] := rfl
@[simp] theorem z59a_exits : z59a.exits = [] := rfl
@[simp] theorem z59a_rets : z59a.rets = some [2] := rfl
@[simp] theorem z59a_keep : z59a.keep = [1, 2] := rfl
@[simp] theorem z59a_cond : z59a.cond = [] := rfl
@[simp] theorem z59a_rows : z59a.rows = [] := rfl
@[simp] theorem z59a_loops : z59a.loops = [] := rfl
@[simp] theorem z59a_ecalls : z59a.ecalls = [] := rfl
@[simp] theorem z59a_crows : z59a.crows = [(64, 0, 92, 2)] := rfl
@[simp] theorem z59a_tails : z59a.tails = [] := rfl
@[simp] def z59b : PL := []
def z59c : CT := ⟨callOf (z59b ), callOfE noE, gl⟩
@[simp] theorem z59c_p (f : FuncId) (ds : List D) : z59c.p f ds = callOf (z59b ) f ds := Eq.trans rfl rfl
@[simp] theorem z59c_e (f : FuncId) (hs : List (Nat × O)) (ds : List D) : z59c.e f hs ds = callOfE noE f hs ds := Eq.trans rfl rfl
@[simp] theorem z59c_g (g : Nat) : z59c.g g = gl g := Eq.trans rfl rfl
def L_defect_isKnot (i n : Nat) (s : St) : OS := atN Tryz.prog z59c z59a 11 (bodyOf Tryz.f103) i n s
def z59h (n i : Nat) (s : St) : OS := atH Tryz.prog z59c z59a 11 (bodyOf Tryz.f103) n i s
@[simp] theorem z59h_eq (n i : Nat) (s : St) : z59h n i s = L_defect_isKnot i n (headOf (z59a.loops.lookup i) s) := rfl
def R_defect_isKnot (i : Nat) (s : St) : OS := stepL Tryz.prog z59c z59a 11 (bodyOf Tryz.f103) i s
theorem z59k : okLoops (bodyOf Tryz.f103) = true := by kernel_rfl
def F_defect_isKnot (ds : List D) : Option D := runF Tryz.prog z59c z59a 11 (bodyOf Tryz.f103) [.tmp 2] ds
theorem F_defect_isKnot_eq (ds : List D) : F_defect_isKnot ds = runG Tryz.prog z59c (z59h bigL) z59a 11 (bodyOf Tryz.f103) [.tmp 2] ds := runG_eq z59k _ ds
theorem C_defect_isKnot (ds : List D) (r : D) (h : F_defect_isKnot ds = some r) : Contract Tryz.prog gl 103 ds r := contract_of mix Tryz.func103 rfl (by kernel_rfl) (by kernel_rfl) (by decide) (call := z59c) ⟨callOf_ok z59b trivial, callOfE_ok noE trivial⟩ h
attribute [simp] Tryz.f105
def z60a : Ann := ⟨[2, 3, 4, 5], [21], [], [], [], some [4], [], [], [(64, 0, 92, 2)], []⟩
@[simp] theorem z60a_draws : z60a.draws = [] := rfl
@[simp] theorem z60a_exits : z60a.exits = [] := rfl
@[simp] theorem z60a_rets : z60a.rets = some [4] := rfl
@[simp] theorem z60a_keep : z60a.keep = [2, 3, 4, 5] := rfl
@[simp] theorem z60a_cond : z60a.cond = [21] := rfl
@[simp] theorem z60a_rows : z60a.rows = [] := rfl
@[simp] theorem z60a_loops : z60a.loops = [] := rfl
@[simp] theorem z60a_ecalls : z60a.ecalls = [] := rfl
@[simp] theorem z60a_crows : z60a.crows = [(64, 0, 92, 2)] := rfl
@[simp] theorem z60a_tails : z60a.tails = [] := rfl
@[simp] def z60b : PL := []
def z60c : CT := ⟨callOf (z60b ), callOfE noE, gl⟩
@[simp] theorem z60c_p (f : FuncId) (ds : List D) : z60c.p f ds = callOf (z60b ) f ds := Eq.trans rfl rfl
@[simp] theorem z60c_e (f : FuncId) (hs : List (Nat × O)) (ds : List D) : z60c.e f hs ds = callOfE noE f hs ds := Eq.trans rfl rfl
@[simp] theorem z60c_g (g : Nat) : z60c.g g = gl g := Eq.trans rfl rfl
def L_span_Meet (i n : Nat) (s : St) : OS := atN Tryz.prog z60c z60a 24 (bodyOf Tryz.f105) i n s
def z60h (n i : Nat) (s : St) : OS := atH Tryz.prog z60c z60a 24 (bodyOf Tryz.f105) n i s
@[simp] theorem z60h_eq (n i : Nat) (s : St) : z60h n i s = L_span_Meet i n (headOf (z60a.loops.lookup i) s) := rfl
def R_span_Meet (i : Nat) (s : St) : OS := stepL Tryz.prog z60c z60a 24 (bodyOf Tryz.f105) i s
theorem z60k : okLoops (bodyOf Tryz.f105) = true := by kernel_rfl
def F_span_Meet (ds : List D) : Option D := runF Tryz.prog z60c z60a 24 (bodyOf Tryz.f105) [.cell 4 23] ds
theorem F_span_Meet_eq (ds : List D) : F_span_Meet ds = runG Tryz.prog z60c (z60h bigL) z60a 24 (bodyOf Tryz.f105) [.cell 4 23] ds := runG_eq z60k _ ds
theorem C_span_Meet (ds : List D) (r : D) (h : F_span_Meet ds = some r) : Contract Tryz.prog gl 105 ds r := contract_of mix Tryz.func105 rfl (by kernel_rfl) (by kernel_rfl) (by decide) (call := z60c) ⟨callOf_ok z60b trivial, callOfE_ok noE trivial⟩ h
attribute [simp] Tryz.f53
def z61a : Ann := ⟨[0, 1, 4, 5, 7, 8, 9, 10, 12, 24, 25, 26, 42, 43, 44], [23, 27, 45, 58], [], [(5, [0, 1, 5, 24, 25, 26]), (11, [0, 1, 5, 9, 10, 24, 25, 26, 42, 43, 44])], [(0, [5]), (1, [0, 1, 5, 24, 25, 26]), (2, [0, 1, 5, 10, 24, 25, 26]), (3, [0, 1, 5, 9, 10, 24, 25, 26, 42, 43, 44])], some [4], [], [], [(64, 0, 92, 2)], []⟩
@[simp] theorem z61a_draws : z61a.draws = [] := rfl
@[simp] theorem z61a_exits : z61a.exits = [(0, [5]), (1, [0, 1, 5, 24, 25, 26]), (2, [0, 1, 5, 10, 24, 25, 26]), (3, [0, 1, 5, 9, 10, 24, 25, 26, 42, 43, 44])] := rfl
@[simp] theorem z61a_rets : z61a.rets = some [4] := rfl
@[simp] theorem z61a_keep : z61a.keep = [0, 1, 4, 5, 7, 8, 9, 10, 12, 24, 25, 26, 42, 43, 44] := rfl
@[simp] theorem z61a_cond : z61a.cond = [23, 27, 45, 58] := rfl
@[simp] theorem z61a_rows : z61a.rows = [] := rfl
@[simp] theorem z61a_loops : z61a.loops = [(5, [0, 1, 5, 24, 25, 26]), (11, [0, 1, 5, 9, 10, 24, 25, 26, 42, 43, 44])] := rfl
@[simp] theorem z61a_ecalls : z61a.ecalls = [] := rfl
@[simp] theorem z61a_crows : z61a.crows = [(64, 0, 92, 2)] := rfl
@[simp] theorem z61a_tails : z61a.tails = [] := rfl
@[simp] def z61b : PL := [(94, F_defect_Check), (102, F_defect_Size), (103, F_defect_isKnot), (104, F_defect_isEmpty), (105, F_span_Meet)]
def z61c : CT := ⟨callOf (z61b ), callOfE noE, gl⟩
@[simp] theorem z61c_p (f : FuncId) (ds : List D) : z61c.p f ds = callOf (z61b ) f ds := Eq.trans rfl rfl
@[simp] theorem z61c_e (f : FuncId) (hs : List (Nat × O)) (ds : List D) : z61c.e f hs ds = callOfE noE f hs ds := Eq.trans rfl rfl
@[simp] theorem z61c_g (g : Nat) : z61c.g g = gl g := Eq.trans rfl rfl
def L_defect_Worst (i n : Nat) (s : St) : OS := atN Tryz.prog z61c z61a 69 (bodyOf Tryz.f53) i n s
def z61h (n i : Nat) (s : St) : OS := atH Tryz.prog z61c z61a 69 (bodyOf Tryz.f53) n i s
@[simp] theorem z61h_eq (n i : Nat) (s : St) : z61h n i s = L_defect_Worst i n (headOf (z61a.loops.lookup i) s) := rfl
def R_defect_Worst (i : Nat) (s : St) : OS := stepL Tryz.prog z61c z61a 69 (bodyOf Tryz.f53) i s
theorem z61k : okLoops (bodyOf Tryz.f53) = true := by kernel_rfl
theorem L_defect_Worst_zero (i : Nat) (s : St) : L_defect_Worst i 0 s = none := rfl
theorem L_defect_Worst_succ (i n : Nat) (s : St) : L_defect_Worst i (n + 1) s = andThen (R_defect_Worst i s) (z61h n i) := atN_succ z61k i n s
theorem R_defect_Worst_eq (i : Nat) (s : St) : R_defect_Worst i s = runS Tryz.prog z61c (z61h bigL) z61a 69 (loopAt (bodyOf Tryz.f53) i) s := rfl
def F_defect_Worst (ds : List D) : Option D := runF Tryz.prog z61c z61a 69 (bodyOf Tryz.f53) [.tmp 4] ds
theorem F_defect_Worst_eq (ds : List D) : F_defect_Worst ds = runG Tryz.prog z61c (z61h bigL) z61a 69 (bodyOf Tryz.f53) [.tmp 4] ds := runG_eq z61k _ ds
theorem C_defect_Worst (ds : List D) (r : D) (h : F_defect_Worst ds = some r) : Contract Tryz.prog gl 53 ds r := contract_of mix Tryz.func53 rfl (by kernel_rfl) (by kernel_rfl) (by decide) (call := z61c) ⟨callOf_ok z61b ⟨C_defect_Check, C_defect_Size, C_defect_isKnot, C_defect_isEmpty, C_span_Meet, trivial⟩, callOfE_ok noE trivial⟩ h
attribute [simp] Tryz.f106
def z62a : Ann := ⟨[1, 2], [20, 28], [], [], [], some [2], [], [], [(64, 0, 92, 2)], []⟩
@[simp] theorem z62a_draws : z62a.draws = [] := rfl
@[simp] theorem z62a_exits : z62a.exits = [] := rfl
@[simp] theorem z62a_rets : z62a.rets = some [2] := rfl
@[simp] theorem z62a_keep : z62a.keep = [1, 2] := rfl
@[simp] theorem z62a_cond : z62a.cond = [20, 28] := rfl
@[simp] theorem z62a_rows : z62a.rows = [] := rfl
@[simp] theorem z62a_loops : z62a.loops = [] := rfl
@[simp] theorem z62a_ecalls : z62a.ecalls = [] := rfl
@[simp] theorem z62a_crows : z62a.crows = [(64, 0, 92, 2)] := rfl
@[simp] theorem z62a_tails : z62a.tails = [] := rfl
@[simp] def z62b : PL := []
def z62c : CT := ⟨callOf (z62b ), callOfE noE, gl⟩
@[simp] theorem z62c_p (f : FuncId) (ds : List D) : z62c.p f ds = callOf (z62b ) f ds := Eq.trans rfl rfl
@[simp] theorem z62c_e (f : FuncId) (hs : List (Nat × O)) (ds : List D) : z62c.e f hs ds = callOfE noE f hs ds := Eq.trans rfl rfl
@[simp] theorem z62c_g (g : Nat) : z62c.g g = gl g := Eq.trans rfl rfl
def L_moist_Check (i n : Nat) (s : St) : OS := atN Tryz.prog z62c z62a 29 (bodyOf Tryz.f106) i n s
def z62h (n i : Nat) (s : St) : OS := atH Tryz.prog z62c z62a 29 (bodyOf Tryz.f106) n i s
@[simp] theorem z62h_eq (n i : Nat) (s : St) : z62h n i s = L_moist_Check i n (headOf (z62a.loops.lookup i) s) := rfl
def R_moist_Check (i : Nat) (s : St) : OS := stepL Tryz.prog z62c z62a 29 (bodyOf Tryz.f106) i s
theorem z62k : okLoops (bodyOf Tryz.f106) = true := by kernel_rfl
def F_moist_Check (ds : List D) : Option D := runF Tryz.prog z62c z62a 29 (bodyOf Tryz.f106) [.tmp 2] ds
theorem F_moist_Check_eq (ds : List D) : F_moist_Check ds = runG Tryz.prog z62c (z62h bigL) z62a 29 (bodyOf Tryz.f106) [.tmp 2] ds := runG_eq z62k _ ds
theorem C_moist_Check (ds : List D) (r : D) (h : F_moist_Check ds = some r) : Contract Tryz.prog gl 106 ds r := contract_of mix Tryz.func106 rfl (by kernel_rfl) (by kernel_rfl) (by decide) (call := z62c) ⟨callOf_ok z62b trivial, callOfE_ok noE trivial⟩ h
end
end Go.Proofs.YtldekjlihfidlaaGreatDoor
