/-
  Printed by gen.py for this seat: facts about the types that the laws reach; for each function its annotation (what is kept behind a region, which rows are a variable's own, what is alive at the head of a loop), its abstract run, and that the run is its contract.
-/
import Derived.Test.YtmnipfincjpofaaAbsT
import Derived.Test.YtmnipfincjpofaaRows
namespace Go.Proofs.Ytmnipfincjpofaa
open Go Go.Abs
set_option maxRecDepth 100000
set_option linter.unusedSimpArgs false
set_option linter.unusedVariables false
theorem mix : Try.prog.follows .mixedOrders = true := by kernel_rfl
theorem laid : laidOutB Try.prog = true := by kernel_rfl
-- 0 ()
attribute [simp] Try.underlying0
@[simp] theorem sz0 : szT Try.prog 0 = some 1 := by kernel_rfl
@[simp] theorem co0 : Try.prog.cellsOf 0 = 1 := by kernel_rfl
@[simp] theorem ag0 : aggT Try.prog 0 = some false := by kernel_rfl
-- 1 func()
attribute [simp] Try.underlying1
@[simp] theorem sz1 : szT Try.prog 1 = some 1 := by kernel_rfl
@[simp] theorem co1 : Try.prog.cellsOf 1 = 1 := by kernel_rfl
@[simp] theorem ag1 : aggT Try.prog 1 = some false := by kernel_rfl
@[simp] theorem zr1 : zeroD Try.prog 1 = some [.x .nilFunc] := by kernel_rfl
-- 2 int64
attribute [simp] Try.underlying2
@[simp] theorem sz2 : szT Try.prog 2 = some 1 := by kernel_rfl
@[simp] theorem co2 : Try.prog.cellsOf 2 = 1 := by kernel_rfl
@[simp] theorem ag2 : aggT Try.prog 2 = some false := by kernel_rfl
@[simp] theorem zr2 : zeroD Try.prog 2 = some [.x (.int .i64 0)] := by kernel_rfl
-- 3 int
attribute [simp] Try.underlying3
@[simp] theorem sz3 : szT Try.prog 3 = some 1 := by kernel_rfl
@[simp] theorem co3 : Try.prog.cellsOf 3 = 1 := by kernel_rfl
@[simp] theorem ag3 : aggT Try.prog 3 = some false := by kernel_rfl
@[simp] theorem zr3 : zeroD Try.prog 3 = some [.x (.int .i64 0)] := by kernel_rfl
-- 4 bool
attribute [simp] Try.underlying4
@[simp] theorem sz4 : szT Try.prog 4 = some 1 := by kernel_rfl
@[simp] theorem co4 : Try.prog.cellsOf 4 = 1 := by kernel_rfl
@[simp] theorem ag4 : aggT Try.prog 4 = some false := by kernel_rfl
@[simp] theorem zr4 : zeroD Try.prog 4 = some [.x (.bool false)] := by kernel_rfl
-- 5 uint8
attribute [simp] Try.underlying5
@[simp] theorem sz5 : szT Try.prog 5 = some 1 := by kernel_rfl
@[simp] theorem co5 : Try.prog.cellsOf 5 = 1 := by kernel_rfl
@[simp] theorem ag5 : aggT Try.prog 5 = some false := by kernel_rfl
@[simp] theorem zr5 : zeroD Try.prog 5 = some [.x (.int .u8 0)] := by kernel_rfl
-- 6 abi.BoundsErrorCode
attribute [simp] Try.underlying6
@[simp] theorem sz6 : szT Try.prog 6 = some 1 := by kernel_rfl
@[simp] theorem co6 : Try.prog.cellsOf 6 = 1 := by kernel_rfl
@[simp] theorem ag6 : aggT Try.prog 6 = some false := by kernel_rfl
@[simp] theorem zr6 : zeroD Try.prog 6 = some [.x (.int .u8 0)] := by kernel_rfl
-- 7 struct { x int64; y int; signed bool; code abi.BoundsErrorCo
attribute [simp] Try.underlying7
@[simp] theorem sz7 : szT Try.prog 7 = some 4 := by kernel_rfl
@[simp] theorem co7 : Try.prog.cellsOf 7 = 4 := by kernel_rfl
@[simp] theorem ag7 : aggT Try.prog 7 = some true := by kernel_rfl
@[simp] theorem zr7 : zeroD Try.prog 7 = some [.x (.int .i64 0), .x (.int .i64 0), .x (.bool false), .x (.int .u8 0)] := by kernel_rfl
@[simp] theorem bt7 : buildT Try.prog 7 = some ([(0, 1), (1, 1), (2, 1), (3, 1)], [.x (.int .i64 0), .x (.int .i64 0), .x (.bool false), .x (.int .u8 0)]) := by kernel_rfl
@[simp] theorem st7 : Try.prog.stoodInHeld 7 = false := by kernel_rfl
@[simp] theorem eg7 : Try.prog.eqGuardType Try.prog.depth 7 = false := by kernel_rfl
-- 9 string
attribute [simp] Try.underlying9
@[simp] theorem sz9 : szT Try.prog 9 = some 1 := by kernel_rfl
@[simp] theorem co9 : Try.prog.cellsOf 9 = 1 := by kernel_rfl
@[simp] theorem ag9 : aggT Try.prog 9 = some false := by kernel_rfl
@[simp] theorem zr9 : zeroD Try.prog 9 = some [.x (.string ByteArray.empty)] := by kernel_rfl
-- 22 []int
attribute [simp] Try.underlying22
@[simp] theorem sz22 : szT Try.prog 22 = some 1 := by kernel_rfl
@[simp] theorem co22 : Try.prog.cellsOf 22 = 1 := by kernel_rfl
@[simp] theorem ag22 : aggT Try.prog 22 = some false := by kernel_rfl
@[simp] theorem zr22 : zeroD Try.prog 22 = some [.emp] := by kernel_rfl
@[simp] theorem mk22 : mkT Try.prog 22 = some (3, 1, 8, [.x (.int .i64 0)]) := by kernel_rfl
@[simp] theorem ap22 : appT Try.prog 22 = some (3, 1, 8) := by kernel_rfl
-- 23 [][]int
attribute [simp] Try.underlying23
@[simp] theorem sz23 : szT Try.prog 23 = some 1 := by kernel_rfl
@[simp] theorem co23 : Try.prog.cellsOf 23 = 1 := by kernel_rfl
@[simp] theorem ag23 : aggT Try.prog 23 = some false := by kernel_rfl
@[simp] theorem zr23 : zeroD Try.prog 23 = some [.emp] := by kernel_rfl
@[simp] theorem mk23 : mkT Try.prog 23 = some (22, 1, 24, [.emp]) := by kernel_rfl
@[simp] theorem ap23 : appT Try.prog 23 = some (22, 1, 24) := by kernel_rfl
-- 25 api.Grid
attribute [simp] Try.underlying25
@[simp] theorem sz25 : szT Try.prog 25 = some 3 := by kernel_rfl
@[simp] theorem co25 : Try.prog.cellsOf 25 = 3 := by kernel_rfl
@[simp] theorem ag25 : aggT Try.prog 25 = some true := by kernel_rfl
@[simp] theorem zr25 : zeroD Try.prog 25 = some [.emp, .emp, .emp] := by kernel_rfl
@[simp] theorem bt25 : buildT Try.prog 25 = some ([(0, 1), (1, 1), (2, 1)], [.emp, .emp, .emp]) := by kernel_rfl
@[simp] theorem st25 : Try.prog.stoodInHeld 25 = false := by kernel_rfl
@[simp] theorem eg25 : Try.prog.eqGuardType Try.prog.depth 25 = false := by kernel_rfl
-- 30 api.Climate
attribute [simp] Try.underlying30
@[simp] theorem sz30 : szT Try.prog 30 = some 2 := by kernel_rfl
@[simp] theorem co30 : Try.prog.cellsOf 30 = 2 := by kernel_rfl
@[simp] theorem ag30 : aggT Try.prog 30 = some true := by kernel_rfl
@[simp] theorem zr30 : zeroD Try.prog 30 = some [.x (.int .i64 0), .x (.int .i64 0)] := by kernel_rfl
@[simp] theorem bt30 : buildT Try.prog 30 = some ([(0, 1), (1, 1)], [.x (.int .i64 0), .x (.int .i64 0)]) := by kernel_rfl
@[simp] theorem st30 : Try.prog.stoodInHeld 30 = false := by kernel_rfl
@[simp] theorem eg30 : Try.prog.eqGuardType Try.prog.depth 30 = false := by kernel_rfl
-- 31 api.Errno
attribute [simp] Try.underlying31
@[simp] theorem sz31 : szT Try.prog 31 = some 1 := by kernel_rfl
@[simp] theorem co31 : Try.prog.cellsOf 31 = 1 := by kernel_rfl
@[simp] theorem ag31 : aggT Try.prog 31 = some false := by kernel_rfl
@[simp] theorem zr31 : zeroD Try.prog 31 = some [.x (.int .i64 0)] := by kernel_rfl
-- 36 sawmilllaw35.Tick
attribute [simp] Try.underlying36
@[simp] theorem sz36 : szT Try.prog 36 = some 6 := by kernel_rfl
@[simp] theorem co36 : Try.prog.cellsOf 36 = 6 := by kernel_rfl
@[simp] theorem ag36 : aggT Try.prog 36 = some true := by kernel_rfl
@[simp] theorem zr36 : zeroD Try.prog 36 = some [.x (.int .i64 0), .x (.int .i64 0), .x (.int .i64 0), .x (.int .i64 0), .x (.int .i64 0), .emp] := by kernel_rfl
@[simp] theorem bt36 : buildT Try.prog 36 = some ([(0, 2), (2, 2), (4, 1), (5, 1)], [.x (.int .i64 0), .x (.int .i64 0), .x (.int .i64 0), .x (.int .i64 0), .x (.int .i64 0), .emp]) := by kernel_rfl
@[simp] theorem st36 : Try.prog.stoodInHeld 36 = false := by kernel_rfl
@[simp] theorem eg36 : Try.prog.eqGuardType Try.prog.depth 36 = false := by kernel_rfl
-- 45 api.Cell
attribute [simp] Try.underlying45
@[simp] theorem sz45 : szT Try.prog 45 = some 3 := by kernel_rfl
@[simp] theorem co45 : Try.prog.cellsOf 45 = 3 := by kernel_rfl
@[simp] theorem ag45 : aggT Try.prog 45 = some true := by kernel_rfl
@[simp] theorem zr45 : zeroD Try.prog 45 = some [.x (.int .i64 0), .x (.int .i64 0), .x (.int .i64 0)] := by kernel_rfl
@[simp] theorem bt45 : buildT Try.prog 45 = some ([(0, 1), (1, 1), (2, 1)], [.x (.int .i64 0), .x (.int .i64 0), .x (.int .i64 0)]) := by kernel_rfl
@[simp] theorem st45 : Try.prog.stoodInHeld 45 = false := by kernel_rfl
@[simp] theorem eg45 : Try.prog.eqGuardType Try.prog.depth 45 = false := by kernel_rfl
-- 47 api.Species
attribute [simp] Try.underlying47
@[simp] theorem sz47 : szT Try.prog 47 = some 13 := by kernel_rfl
@[simp] theorem co47 : Try.prog.cellsOf 47 = 13 := by kernel_rfl
@[simp] theorem ag47 : aggT Try.prog 47 = some true := by kernel_rfl
@[simp] theorem zr47 : zeroD Try.prog 47 = some [.x (.string ByteArray.empty), .x (.int .i64 0), .x (.int .i64 0), .x (.int .i64 0), .x (.int .i64 0), .x (.int .i64 0), .x (.int .i64 0), .x (.int .i64 0), .x (.int .i64 0), .x (.int .i64 0), .x (.int .i64 0), .x (.int .i64 0), .x (.int .i64 0)] := by kernel_rfl
@[simp] theorem bt47 : buildT Try.prog 47 = some ([(0, 1), (1, 1), (2, 1), (3, 1), (4, 1), (5, 1), (6, 1), (7, 1), (8, 1), (9, 1), (10, 1), (11, 1), (12, 1)], [.x (.string ByteArray.empty), .x (.int .i64 0), .x (.int .i64 0), .x (.int .i64 0), .x (.int .i64 0), .x (.int .i64 0), .x (.int .i64 0), .x (.int .i64 0), .x (.int .i64 0), .x (.int .i64 0), .x (.int .i64 0), .x (.int .i64 0), .x (.int .i64 0)]) := by kernel_rfl
@[simp] theorem st47 : Try.prog.stoodInHeld 47 = false := by kernel_rfl
@[simp] theorem eg47 : Try.prog.eqGuardType Try.prog.depth 47 = false := by kernel_rfl
-- 49 sawmilllaw36.Board
attribute [simp] Try.underlying49
@[simp] theorem sz49 : szT Try.prog 49 = some 20 := by kernel_rfl
@[simp] theorem co49 : Try.prog.cellsOf 49 = 20 := by kernel_rfl
@[simp] theorem ag49 : aggT Try.prog 49 = some true := by kernel_rfl
@[simp] theorem zr49 : zeroD Try.prog 49 = some [.x (.int .i64 0), .x (.int .i64 0), .x (.int .i64 0), .x (.string ByteArray.empty), .x (.int .i64 0), .x (.int .i64 0), .x (.int .i64 0), .x (.int .i64 0), .x (.int .i64 0), .x (.int .i64 0), .x (.int .i64 0), .x (.int .i64 0), .x (.int .i64 0), .x (.int .i64 0), .x (.int .i64 0), .x (.int .i64 0), .x (.int .i64 0), .x (.int .i64 0), .x (.int .i64 0), .x (.bool false)] := by kernel_rfl
@[simp] theorem bt49 : buildT Try.prog 49 = some ([(0, 3), (3, 13), (16, 1), (17, 2), (19, 1)], [.x (.int .i64 0), .x (.int .i64 0), .x (.int .i64 0), .x (.string ByteArray.empty), .x (.int .i64 0), .x (.int .i64 0), .x (.int .i64 0), .x (.int .i64 0), .x (.int .i64 0), .x (.int .i64 0), .x (.int .i64 0), .x (.int .i64 0), .x (.int .i64 0), .x (.int .i64 0), .x (.int .i64 0), .x (.int .i64 0), .x (.int .i64 0), .x (.int .i64 0), .x (.int .i64 0), .x (.bool false)]) := by kernel_rfl
@[simp] theorem st49 : Try.prog.stoodInHeld 49 = false := by kernel_rfl
@[simp] theorem eg49 : Try.prog.eqGuardType Try.prog.depth 49 = false := by kernel_rfl
-- 69 [16]int
attribute [simp] Try.underlying69
@[simp] theorem sz69 : szT Try.prog 69 = some 16 := by kernel_rfl
@[simp] theorem co69 : Try.prog.cellsOf 69 = 16 := by kernel_rfl
@[simp] theorem ag69 : aggT Try.prog 69 = some true := by kernel_rfl
@[simp] theorem zr69 : zeroD Try.prog 69 = some [.x (.int .i64 0), .x (.int .i64 0), .x (.int .i64 0), .x (.int .i64 0), .x (.int .i64 0), .x (.int .i64 0), .x (.int .i64 0), .x (.int .i64 0), .x (.int .i64 0), .x (.int .i64 0), .x (.int .i64 0), .x (.int .i64 0), .x (.int .i64 0), .x (.int .i64 0), .x (.int .i64 0), .x (.int .i64 0)] := by kernel_rfl
@[simp] theorem bt69 : buildT Try.prog 69 = some ([(0, 1), (1, 1), (2, 1), (3, 1), (4, 1), (5, 1), (6, 1), (7, 1), (8, 1), (9, 1), (10, 1), (11, 1), (12, 1), (13, 1), (14, 1), (15, 1)], [.x (.int .i64 0), .x (.int .i64 0), .x (.int .i64 0), .x (.int .i64 0), .x (.int .i64 0), .x (.int .i64 0), .x (.int .i64 0), .x (.int .i64 0), .x (.int .i64 0), .x (.int .i64 0), .x (.int .i64 0), .x (.int .i64 0), .x (.int .i64 0), .x (.int .i64 0), .x (.int .i64 0), .x (.int .i64 0)]) := by kernel_rfl
-- 71 []api.Point
attribute [simp] Try.underlying71
@[simp] theorem sz71 : szT Try.prog 71 = some 1 := by kernel_rfl
@[simp] theorem co71 : Try.prog.cellsOf 71 = 1 := by kernel_rfl
@[simp] theorem ag71 : aggT Try.prog 71 = some false := by kernel_rfl
@[simp] theorem zr71 : zeroD Try.prog 71 = some [.emp] := by kernel_rfl
@[simp] theorem mk71 : mkT Try.prog 71 = some (75, 2, 16, [.x (.int .i64 0), .x (.int .i64 0)]) := by kernel_rfl
@[simp] theorem ap71 : appT Try.prog 71 = some (75, 2, 16) := by kernel_rfl
-- 75 api.Point
attribute [simp] Try.underlying75
@[simp] theorem sz75 : szT Try.prog 75 = some 2 := by kernel_rfl
@[simp] theorem co75 : Try.prog.cellsOf 75 = 2 := by kernel_rfl
@[simp] theorem ag75 : aggT Try.prog 75 = some true := by kernel_rfl
@[simp] theorem zr75 : zeroD Try.prog 75 = some [.x (.int .i64 0), .x (.int .i64 0)] := by kernel_rfl
@[simp] theorem bt75 : buildT Try.prog 75 = some ([(0, 1), (1, 1)], [.x (.int .i64 0), .x (.int .i64 0)]) := by kernel_rfl
@[simp] theorem st75 : Try.prog.stoodInHeld 75 = false := by kernel_rfl
@[simp] theorem eg75 : Try.prog.eqGuardType Try.prog.depth 75 = false := by kernel_rfl
-- 77 uint64
attribute [simp] Try.underlying77
@[simp] theorem sz77 : szT Try.prog 77 = some 1 := by kernel_rfl
@[simp] theorem co77 : Try.prog.cellsOf 77 = 1 := by kernel_rfl
@[simp] theorem ag77 : aggT Try.prog 77 = some false := by kernel_rfl
@[simp] theorem zr77 : zeroD Try.prog 77 = some [.x (.int .u64 0)] := by kernel_rfl
-- 84 (uint64, uint64)
attribute [simp] Try.underlying84
@[simp] theorem sz84 : szT Try.prog 84 = some 1 := by kernel_rfl
@[simp] theorem co84 : Try.prog.cellsOf 84 = 1 := by kernel_rfl
@[simp] theorem ag84 : aggT Try.prog 84 = some false := by kernel_rfl
-- 87 uint
attribute [simp] Try.underlying87
@[simp] theorem sz87 : szT Try.prog 87 = some 1 := by kernel_rfl
@[simp] theorem co87 : Try.prog.cellsOf 87 = 1 := by kernel_rfl
@[simp] theorem ag87 : aggT Try.prog 87 = some false := by kernel_rfl
@[simp] theorem zr87 : zeroD Try.prog 87 = some [.x (.int .u64 0)] := by kernel_rfl
-- 89 error
attribute [simp] Try.underlying89
@[simp] theorem sz89 : szT Try.prog 89 = some 1 := by kernel_rfl
@[simp] theorem co89 : Try.prog.cellsOf 89 = 1 := by kernel_rfl
@[simp] theorem ag89 : aggT Try.prog 89 = some false := by kernel_rfl
@[simp] theorem zr89 : zeroD Try.prog 89 = some [.x .nilIface] := by kernel_rfl
-- sawmill/air.Table: loops []; state: params 0..-1, then [0]
attribute [simp] Try.f15
noncomputable def an_air_Table : Ann := ⟨[0], [], [], [], [], some [0], []⟩
@[simp] theorem an_air_Table_draws : an_air_Table.draws = [] := rfl
@[simp] theorem an_air_Table_exits : an_air_Table.exits = [] := rfl
@[simp] theorem an_air_Table_rets : an_air_Table.rets = some [0] := rfl
@[simp] theorem an_air_Table_keep : an_air_Table.keep = [0] := rfl
@[simp] theorem an_air_Table_cond : an_air_Table.cond = [] := rfl
@[simp] theorem an_air_Table_rows : an_air_Table.rows = [] := rfl
@[simp] theorem an_air_Table_loops : an_air_Table.loops = [] := rfl
@[simp] noncomputable def cl_air_Table : List (Nat × (List D → Option D)) := []
@[simp] noncomputable def c_air_Table (f : FuncId) (ds : List D) : Option D := callOf cl_air_Table f ds
noncomputable def F_air_Table (ds : List D) : Option D := runF Try.prog c_air_Table an_air_Table 11 (bodyOf Try.f15) [.cell 0 25] ds
noncomputable def L_air_Table (i n : Nat) (s : St) : Option (E × St) := atN Try.prog c_air_Table an_air_Table 11 (bodyOf Try.f15) i n s
noncomputable def H_air_Table (n i : Nat) (s : St) : Option (E × St) := atH Try.prog c_air_Table an_air_Table 11 (bodyOf Try.f15) n i s
@[simp] theorem H_air_Table_eq (n i : Nat) (s : St) : H_air_Table n i s = L_air_Table i n (headOf (an_air_Table.loops.lookup i) s) := rfl
noncomputable def R_air_Table (i : Nat) (s : St) : Option (E × St) := stepL Try.prog c_air_Table an_air_Table 11 (bodyOf Try.f15) i s
theorem lok_air_Table : okLoops (bodyOf Try.f15) = true := by kernel_rfl
theorem F_air_Table_eq (ds : List D) : F_air_Table ds = runG Try.prog c_air_Table (H_air_Table bigL) an_air_Table 11 (bodyOf Try.f15) [.cell 0 25] ds := runG_eq lok_air_Table _ ds
theorem C_air_Table (ds : List D) (r : D) (h : F_air_Table ds = some r) : Contract Try.prog 15 ds r := contract_of mix Try.func15 rfl (by kernel_rfl) (by kernel_rfl) (callOf_ok cl_air_Table trivial) h
-- sawmill/sawmillref35.Table: loops []; state: params 0..-1, then [0]
attribute [simp] Try.f16
noncomputable def an_ref35_Table : Ann := ⟨[0], [], [], [], [], some [0], []⟩
@[simp] theorem an_ref35_Table_draws : an_ref35_Table.draws = [] := rfl
@[simp] theorem an_ref35_Table_exits : an_ref35_Table.exits = [] := rfl
@[simp] theorem an_ref35_Table_rets : an_ref35_Table.rets = some [0] := rfl
@[simp] theorem an_ref35_Table_keep : an_ref35_Table.keep = [0] := rfl
@[simp] theorem an_ref35_Table_cond : an_ref35_Table.cond = [] := rfl
@[simp] theorem an_ref35_Table_rows : an_ref35_Table.rows = [] := rfl
@[simp] theorem an_ref35_Table_loops : an_ref35_Table.loops = [] := rfl
@[simp] noncomputable def cl_ref35_Table : List (Nat × (List D → Option D)) := []
@[simp] noncomputable def c_ref35_Table (f : FuncId) (ds : List D) : Option D := callOf cl_ref35_Table f ds
noncomputable def F_ref35_Table (ds : List D) : Option D := runF Try.prog c_ref35_Table an_ref35_Table 11 (bodyOf Try.f16) [.cell 0 25] ds
noncomputable def L_ref35_Table (i n : Nat) (s : St) : Option (E × St) := atN Try.prog c_ref35_Table an_ref35_Table 11 (bodyOf Try.f16) i n s
noncomputable def H_ref35_Table (n i : Nat) (s : St) : Option (E × St) := atH Try.prog c_ref35_Table an_ref35_Table 11 (bodyOf Try.f16) n i s
@[simp] theorem H_ref35_Table_eq (n i : Nat) (s : St) : H_ref35_Table n i s = L_ref35_Table i n (headOf (an_ref35_Table.loops.lookup i) s) := rfl
noncomputable def R_ref35_Table (i : Nat) (s : St) : Option (E × St) := stepL Try.prog c_ref35_Table an_ref35_Table 11 (bodyOf Try.f16) i s
theorem lok_ref35_Table : okLoops (bodyOf Try.f16) = true := by kernel_rfl
theorem F_ref35_Table_eq (ds : List D) : F_ref35_Table ds = runG Try.prog c_ref35_Table (H_ref35_Table bigL) an_ref35_Table 11 (bodyOf Try.f16) [.cell 0 25] ds := runG_eq lok_ref35_Table _ ds
theorem C_ref35_Table (ds : List D) (r : D) (h : F_ref35_Table ds = some r) : Contract Try.prog 16 ds r := contract_of mix Try.func16 rfl (by kernel_rfl) (by kernel_rfl) (callOf_ok cl_ref35_Table trivial) h
-- sawmill/sawmilllaw35.sameInts: loops [4]; state: params 0..1, then [4, 5]
attribute [simp] Try.f17
noncomputable def an_law35_sameInts : Ann := ⟨[0, 1, 4, 5], [10, 14, 25], [], [(4, [0, 1, 5])], [(0, []), (1, [0, 1, 5])], some [4], [(6, 8)]⟩
@[simp] theorem an_law35_sameInts_draws : an_law35_sameInts.draws = [(6, 8)] := rfl
@[simp] theorem an_law35_sameInts_exits : an_law35_sameInts.exits = [(0, []), (1, [0, 1, 5])] := rfl
@[simp] theorem an_law35_sameInts_rets : an_law35_sameInts.rets = some [4] := rfl
@[simp] theorem an_law35_sameInts_keep : an_law35_sameInts.keep = [0, 1, 4, 5] := rfl
@[simp] theorem an_law35_sameInts_cond : an_law35_sameInts.cond = [10, 14, 25] := rfl
@[simp] theorem an_law35_sameInts_rows : an_law35_sameInts.rows = [] := rfl
@[simp] theorem an_law35_sameInts_loops : an_law35_sameInts.loops = [(4, [0, 1, 5])] := rfl
@[simp] noncomputable def cl_law35_sameInts : List (Nat × (List D → Option D)) := []
@[simp] noncomputable def c_law35_sameInts (f : FuncId) (ds : List D) : Option D := callOf cl_law35_sameInts f ds
noncomputable def F_law35_sameInts (ds : List D) : Option D := runF Try.prog c_law35_sameInts an_law35_sameInts 26 (bodyOf Try.f17) [.tmp 4] ds
noncomputable def L_law35_sameInts (i n : Nat) (s : St) : Option (E × St) := atN Try.prog c_law35_sameInts an_law35_sameInts 26 (bodyOf Try.f17) i n s
noncomputable def H_law35_sameInts (n i : Nat) (s : St) : Option (E × St) := atH Try.prog c_law35_sameInts an_law35_sameInts 26 (bodyOf Try.f17) n i s
@[simp] theorem H_law35_sameInts_eq (n i : Nat) (s : St) : H_law35_sameInts n i s = L_law35_sameInts i n (headOf (an_law35_sameInts.loops.lookup i) s) := rfl
noncomputable def R_law35_sameInts (i : Nat) (s : St) : Option (E × St) := stepL Try.prog c_law35_sameInts an_law35_sameInts 26 (bodyOf Try.f17) i s
theorem lok_law35_sameInts : okLoops (bodyOf Try.f17) = true := by kernel_rfl
theorem L_law35_sameInts_zero (i : Nat) (s : St) : L_law35_sameInts i 0 s = none := rfl
theorem L_law35_sameInts_succ (i n : Nat) (s : St) : L_law35_sameInts i (n + 1) s = andThen (R_law35_sameInts i s) (H_law35_sameInts n i) := atN_succ lok_law35_sameInts i n s
theorem R_law35_sameInts_eq (i : Nat) (s : St) : R_law35_sameInts i s = runS Try.prog c_law35_sameInts (H_law35_sameInts bigL) an_law35_sameInts 26 (loopAt (bodyOf Try.f17) i) s := rfl
theorem F_law35_sameInts_eq (ds : List D) : F_law35_sameInts ds = runG Try.prog c_law35_sameInts (H_law35_sameInts bigL) an_law35_sameInts 26 (bodyOf Try.f17) [.tmp 4] ds := runG_eq lok_law35_sameInts _ ds
theorem C_law35_sameInts (ds : List D) (r : D) (h : F_law35_sameInts ds = some r) : Contract Try.prog 17 ds r := contract_of mix Try.func17 rfl (by kernel_rfl) (by kernel_rfl) (callOf_ok cl_law35_sameInts trivial) h
-- sawmill/sawmilllaw35.at: loops []; state: params 0..1, then [4]
attribute [simp] Try.f25
noncomputable def an_law35_at : Ann := ⟨[4], [], [], [], [], some [4], []⟩
@[simp] theorem an_law35_at_draws : an_law35_at.draws = [] := rfl
@[simp] theorem an_law35_at_exits : an_law35_at.exits = [] := rfl
@[simp] theorem an_law35_at_rets : an_law35_at.rets = some [4] := rfl
@[simp] theorem an_law35_at_keep : an_law35_at.keep = [4] := rfl
@[simp] theorem an_law35_at_cond : an_law35_at.cond = [] := rfl
@[simp] theorem an_law35_at_rows : an_law35_at.rows = [] := rfl
@[simp] theorem an_law35_at_loops : an_law35_at.loops = [] := rfl
@[simp] noncomputable def cl_law35_at : List (Nat × (List D → Option D)) := []
@[simp] noncomputable def c_law35_at (f : FuncId) (ds : List D) : Option D := callOf cl_law35_at f ds
noncomputable def F_law35_at (ds : List D) : Option D := runF Try.prog c_law35_at an_law35_at 8 (bodyOf Try.f25) [.cell 4 30] ds
noncomputable def L_law35_at (i n : Nat) (s : St) : Option (E × St) := atN Try.prog c_law35_at an_law35_at 8 (bodyOf Try.f25) i n s
noncomputable def H_law35_at (n i : Nat) (s : St) : Option (E × St) := atH Try.prog c_law35_at an_law35_at 8 (bodyOf Try.f25) n i s
@[simp] theorem H_law35_at_eq (n i : Nat) (s : St) : H_law35_at n i s = L_law35_at i n (headOf (an_law35_at.loops.lookup i) s) := rfl
noncomputable def R_law35_at (i : Nat) (s : St) : Option (E × St) := stepL Try.prog c_law35_at an_law35_at 8 (bodyOf Try.f25) i s
theorem lok_law35_at : okLoops (bodyOf Try.f25) = true := by kernel_rfl
theorem F_law35_at_eq (ds : List D) : F_law35_at ds = runG Try.prog c_law35_at (H_law35_at bigL) an_law35_at 8 (bodyOf Try.f25) [.cell 4 30] ds := runG_eq lok_law35_at _ ds
theorem C_law35_at (ds : List D) (r : D) (h : F_law35_at ds = some r) : Contract Try.prog 25 ds r := contract_of mix Try.func25 rfl (by kernel_rfl) (by kernel_rfl) (callOf_ok cl_law35_at trivial) h
-- sawmill/air.Check: loops []; state: params 0..0, then [1, 2]
attribute [simp] Try.f19
noncomputable def an_air_Check : Ann := ⟨[1, 2], [20], [], [], [], some [2], []⟩
@[simp] theorem an_air_Check_draws : an_air_Check.draws = [] := rfl
@[simp] theorem an_air_Check_exits : an_air_Check.exits = [] := rfl
@[simp] theorem an_air_Check_rets : an_air_Check.rets = some [2] := rfl
@[simp] theorem an_air_Check_keep : an_air_Check.keep = [1, 2] := rfl
@[simp] theorem an_air_Check_cond : an_air_Check.cond = [20] := rfl
@[simp] theorem an_air_Check_rows : an_air_Check.rows = [] := rfl
@[simp] theorem an_air_Check_loops : an_air_Check.loops = [] := rfl
@[simp] noncomputable def cl_air_Check : List (Nat × (List D → Option D)) := []
@[simp] noncomputable def c_air_Check (f : FuncId) (ds : List D) : Option D := callOf cl_air_Check f ds
noncomputable def F_air_Check (ds : List D) : Option D := runF Try.prog c_air_Check an_air_Check 21 (bodyOf Try.f19) [.tmp 2] ds
noncomputable def L_air_Check (i n : Nat) (s : St) : Option (E × St) := atN Try.prog c_air_Check an_air_Check 21 (bodyOf Try.f19) i n s
noncomputable def H_air_Check (n i : Nat) (s : St) : Option (E × St) := atH Try.prog c_air_Check an_air_Check 21 (bodyOf Try.f19) n i s
@[simp] theorem H_air_Check_eq (n i : Nat) (s : St) : H_air_Check n i s = L_air_Check i n (headOf (an_air_Check.loops.lookup i) s) := rfl
noncomputable def R_air_Check (i : Nat) (s : St) : Option (E × St) := stepL Try.prog c_air_Check an_air_Check 21 (bodyOf Try.f19) i s
theorem lok_air_Check : okLoops (bodyOf Try.f19) = true := by kernel_rfl
theorem F_air_Check_eq (ds : List D) : F_air_Check ds = runG Try.prog c_air_Check (H_air_Check bigL) an_air_Check 21 (bodyOf Try.f19) [.tmp 2] ds := runG_eq lok_air_Check _ ds
theorem C_air_Check (ds : List D) (r : D) (h : F_air_Check ds = some r) : Contract Try.prog 19 ds r := contract_of mix Try.func19 rfl (by kernel_rfl) (by kernel_rfl) (callOf_ok cl_air_Check trivial) h
-- sawmill/curve.inRange: loops []; state: params 0..0, then [2]
attribute [simp] Try.f69
noncomputable def an_curve_inRange : Ann := ⟨[2], [], [], [], [], some [2], []⟩
@[simp] theorem an_curve_inRange_draws : an_curve_inRange.draws = [] := rfl
@[simp] theorem an_curve_inRange_exits : an_curve_inRange.exits = [] := rfl
@[simp] theorem an_curve_inRange_rets : an_curve_inRange.rets = some [2] := rfl
@[simp] theorem an_curve_inRange_keep : an_curve_inRange.keep = [2] := rfl
@[simp] theorem an_curve_inRange_cond : an_curve_inRange.cond = [] := rfl
@[simp] theorem an_curve_inRange_rows : an_curve_inRange.rows = [] := rfl
@[simp] theorem an_curve_inRange_loops : an_curve_inRange.loops = [] := rfl
@[simp] noncomputable def cl_curve_inRange : List (Nat × (List D → Option D)) := []
@[simp] noncomputable def c_curve_inRange (f : FuncId) (ds : List D) : Option D := callOf cl_curve_inRange f ds
noncomputable def F_curve_inRange (ds : List D) : Option D := runF Try.prog c_curve_inRange an_curve_inRange 9 (bodyOf Try.f69) [.tmp 2] ds
noncomputable def L_curve_inRange (i n : Nat) (s : St) : Option (E × St) := atN Try.prog c_curve_inRange an_curve_inRange 9 (bodyOf Try.f69) i n s
noncomputable def H_curve_inRange (n i : Nat) (s : St) : Option (E × St) := atH Try.prog c_curve_inRange an_curve_inRange 9 (bodyOf Try.f69) n i s
@[simp] theorem H_curve_inRange_eq (n i : Nat) (s : St) : H_curve_inRange n i s = L_curve_inRange i n (headOf (an_curve_inRange.loops.lookup i) s) := rfl
noncomputable def R_curve_inRange (i : Nat) (s : St) : Option (E × St) := stepL Try.prog c_curve_inRange an_curve_inRange 9 (bodyOf Try.f69) i s
theorem lok_curve_inRange : okLoops (bodyOf Try.f69) = true := by kernel_rfl
theorem F_curve_inRange_eq (ds : List D) : F_curve_inRange ds = runG Try.prog c_curve_inRange (H_curve_inRange bigL) an_curve_inRange 9 (bodyOf Try.f69) [.tmp 2] ds := runG_eq lok_curve_inRange _ ds
theorem C_curve_inRange (ds : List D) (r : D) (h : F_curve_inRange ds = some r) : Contract Try.prog 69 ds r := contract_of mix Try.func69 rfl (by kernel_rfl) (by kernel_rfl) (callOf_ok cl_curve_inRange trivial) h
-- sawmill/curve.checkAxis: loops [2]; state: params 0..0, then [2, 3, 4, 5, 6, 7]
attribute [simp] Try.f68
noncomputable def an_curve_checkAxis : Ann := ⟨[0, 2, 3, 4, 5, 6, 7], [8, 14, 25], [], [(2, [0, 5, 6, 7])], [(0, []), (1, [0, 5, 6, 7])], some [2], []⟩
@[simp] theorem an_curve_checkAxis_draws : an_curve_checkAxis.draws = [] := rfl
@[simp] theorem an_curve_checkAxis_exits : an_curve_checkAxis.exits = [(0, []), (1, [0, 5, 6, 7])] := rfl
@[simp] theorem an_curve_checkAxis_rets : an_curve_checkAxis.rets = some [2] := rfl
@[simp] theorem an_curve_checkAxis_keep : an_curve_checkAxis.keep = [0, 2, 3, 4, 5, 6, 7] := rfl
@[simp] theorem an_curve_checkAxis_cond : an_curve_checkAxis.cond = [8, 14, 25] := rfl
@[simp] theorem an_curve_checkAxis_rows : an_curve_checkAxis.rows = [] := rfl
@[simp] theorem an_curve_checkAxis_loops : an_curve_checkAxis.loops = [(2, [0, 5, 6, 7])] := rfl
@[simp] noncomputable def cl_curve_checkAxis : List (Nat × (List D → Option D)) := [(69, F_curve_inRange)]
@[simp] noncomputable def c_curve_checkAxis (f : FuncId) (ds : List D) : Option D := callOf cl_curve_checkAxis f ds
noncomputable def F_curve_checkAxis (ds : List D) : Option D := runF Try.prog c_curve_checkAxis an_curve_checkAxis 27 (bodyOf Try.f68) [.tmp 2] ds
noncomputable def L_curve_checkAxis (i n : Nat) (s : St) : Option (E × St) := atN Try.prog c_curve_checkAxis an_curve_checkAxis 27 (bodyOf Try.f68) i n s
noncomputable def H_curve_checkAxis (n i : Nat) (s : St) : Option (E × St) := atH Try.prog c_curve_checkAxis an_curve_checkAxis 27 (bodyOf Try.f68) n i s
@[simp] theorem H_curve_checkAxis_eq (n i : Nat) (s : St) : H_curve_checkAxis n i s = L_curve_checkAxis i n (headOf (an_curve_checkAxis.loops.lookup i) s) := rfl
noncomputable def R_curve_checkAxis (i : Nat) (s : St) : Option (E × St) := stepL Try.prog c_curve_checkAxis an_curve_checkAxis 27 (bodyOf Try.f68) i s
theorem lok_curve_checkAxis : okLoops (bodyOf Try.f68) = true := by kernel_rfl
theorem L_curve_checkAxis_zero (i : Nat) (s : St) : L_curve_checkAxis i 0 s = none := rfl
theorem L_curve_checkAxis_succ (i n : Nat) (s : St) : L_curve_checkAxis i (n + 1) s = andThen (R_curve_checkAxis i s) (H_curve_checkAxis n i) := atN_succ lok_curve_checkAxis i n s
theorem R_curve_checkAxis_eq (i : Nat) (s : St) : R_curve_checkAxis i s = runS Try.prog c_curve_checkAxis (H_curve_checkAxis bigL) an_curve_checkAxis 27 (loopAt (bodyOf Try.f68) i) s := rfl
theorem F_curve_checkAxis_eq (ds : List D) : F_curve_checkAxis ds = runG Try.prog c_curve_checkAxis (H_curve_checkAxis bigL) an_curve_checkAxis 27 (bodyOf Try.f68) [.tmp 2] ds := runG_eq lok_curve_checkAxis _ ds
theorem C_curve_checkAxis (ds : List D) (r : D) (h : F_curve_checkAxis ds = some r) : Contract Try.prog 68 ds r := contract_of mix Try.func68 rfl (by kernel_rfl) (by kernel_rfl) (callOf_ok cl_curve_checkAxis ⟨C_curve_inRange, trivial⟩) h
-- sawmill/curve.CheckGrid: loops [14, 19]; state: params 0..0, then [1, 2, 3, 4, 6, 8, 49, 50, 51, 61, 62, 63]
attribute [simp] Try.f57
noncomputable def an_curve_CheckGrid : Ann := ⟨[1, 2, 3, 4, 6, 8, 49, 50, 51, 61, 62, 63], [18, 28, 33, 39, 47, 52, 60, 64, 69], [], [(14, [1, 49, 50, 51]), (19, [1, 49, 50, 51, 61, 62, 63])], [(0, []), (1, [1, 49, 50, 51]), (2, [1, 49, 50, 51]), (3, [1, 49, 50, 51, 61, 62, 63])], some [2], []⟩
@[simp] theorem an_curve_CheckGrid_draws : an_curve_CheckGrid.draws = [] := rfl
@[simp] theorem an_curve_CheckGrid_exits : an_curve_CheckGrid.exits = [(0, []), (1, [1, 49, 50, 51]), (2, [1, 49, 50, 51]), (3, [1, 49, 50, 51, 61, 62, 63])] := rfl
@[simp] theorem an_curve_CheckGrid_rets : an_curve_CheckGrid.rets = some [2] := rfl
@[simp] theorem an_curve_CheckGrid_keep : an_curve_CheckGrid.keep = [1, 2, 3, 4, 6, 8, 49, 50, 51, 61, 62, 63] := rfl
@[simp] theorem an_curve_CheckGrid_cond : an_curve_CheckGrid.cond = [18, 28, 33, 39, 47, 52, 60, 64, 69] := rfl
@[simp] theorem an_curve_CheckGrid_rows : an_curve_CheckGrid.rows = [] := rfl
@[simp] theorem an_curve_CheckGrid_loops : an_curve_CheckGrid.loops = [(14, [1, 49, 50, 51]), (19, [1, 49, 50, 51, 61, 62, 63])] := rfl
@[simp] noncomputable def cl_curve_CheckGrid : List (Nat × (List D → Option D)) := [(68, F_curve_checkAxis), (69, F_curve_inRange)]
@[simp] noncomputable def c_curve_CheckGrid (f : FuncId) (ds : List D) : Option D := callOf cl_curve_CheckGrid f ds
noncomputable def F_curve_CheckGrid (ds : List D) : Option D := runF Try.prog c_curve_CheckGrid an_curve_CheckGrid 72 (bodyOf Try.f57) [.tmp 2] ds
noncomputable def L_curve_CheckGrid (i n : Nat) (s : St) : Option (E × St) := atN Try.prog c_curve_CheckGrid an_curve_CheckGrid 72 (bodyOf Try.f57) i n s
noncomputable def H_curve_CheckGrid (n i : Nat) (s : St) : Option (E × St) := atH Try.prog c_curve_CheckGrid an_curve_CheckGrid 72 (bodyOf Try.f57) n i s
@[simp] theorem H_curve_CheckGrid_eq (n i : Nat) (s : St) : H_curve_CheckGrid n i s = L_curve_CheckGrid i n (headOf (an_curve_CheckGrid.loops.lookup i) s) := rfl
noncomputable def R_curve_CheckGrid (i : Nat) (s : St) : Option (E × St) := stepL Try.prog c_curve_CheckGrid an_curve_CheckGrid 72 (bodyOf Try.f57) i s
theorem lok_curve_CheckGrid : okLoops (bodyOf Try.f57) = true := by kernel_rfl
theorem L_curve_CheckGrid_zero (i : Nat) (s : St) : L_curve_CheckGrid i 0 s = none := rfl
theorem L_curve_CheckGrid_succ (i n : Nat) (s : St) : L_curve_CheckGrid i (n + 1) s = andThen (R_curve_CheckGrid i s) (H_curve_CheckGrid n i) := atN_succ lok_curve_CheckGrid i n s
theorem R_curve_CheckGrid_eq (i : Nat) (s : St) : R_curve_CheckGrid i s = runS Try.prog c_curve_CheckGrid (H_curve_CheckGrid bigL) an_curve_CheckGrid 72 (loopAt (bodyOf Try.f57) i) s := rfl
theorem F_curve_CheckGrid_eq (ds : List D) : F_curve_CheckGrid ds = runG Try.prog c_curve_CheckGrid (H_curve_CheckGrid bigL) an_curve_CheckGrid 72 (bodyOf Try.f57) [.tmp 2] ds := runG_eq lok_curve_CheckGrid _ ds
theorem C_curve_CheckGrid (ds : List D) (r : D) (h : F_curve_CheckGrid ds = some r) : Contract Try.prog 57 ds r := contract_of mix Try.func57 rfl (by kernel_rfl) (by kernel_rfl) (callOf_ok cl_curve_CheckGrid ⟨C_curve_checkAxis, C_curve_inRange, trivial⟩) h
-- sawmill/curve.points: loops [3]; state: params 0..1, then [4, 5, 6, 11, 12]
attribute [simp] Try.f59
noncomputable def an_curve_points : Ann := ⟨[0, 4, 5, 6, 11, 12], [13], [5], [(3, [0, 1, 5, 11, 12])], [(0, [5]), (1, [0, 1, 5, 11, 12])], some [4], [(5, 11)]⟩
@[simp] theorem an_curve_points_draws : an_curve_points.draws = [(5, 11)] := rfl
@[simp] theorem an_curve_points_exits : an_curve_points.exits = [(0, [5]), (1, [0, 1, 5, 11, 12])] := rfl
@[simp] theorem an_curve_points_rets : an_curve_points.rets = some [4] := rfl
@[simp] theorem an_curve_points_keep : an_curve_points.keep = [0, 4, 5, 6, 11, 12] := rfl
@[simp] theorem an_curve_points_cond : an_curve_points.cond = [13] := rfl
@[simp] theorem an_curve_points_rows : an_curve_points.rows = [5] := rfl
@[simp] theorem an_curve_points_loops : an_curve_points.loops = [(3, [0, 1, 5, 11, 12])] := rfl
@[simp] noncomputable def cl_curve_points : List (Nat × (List D → Option D)) := []
@[simp] noncomputable def c_curve_points (f : FuncId) (ds : List D) : Option D := callOf cl_curve_points f ds
noncomputable def F_curve_points (ds : List D) : Option D := runF Try.prog c_curve_points an_curve_points 29 (bodyOf Try.f59) [.tmp 4] ds
noncomputable def L_curve_points (i n : Nat) (s : St) : Option (E × St) := atN Try.prog c_curve_points an_curve_points 29 (bodyOf Try.f59) i n s
noncomputable def H_curve_points (n i : Nat) (s : St) : Option (E × St) := atH Try.prog c_curve_points an_curve_points 29 (bodyOf Try.f59) n i s
@[simp] theorem H_curve_points_eq (n i : Nat) (s : St) : H_curve_points n i s = L_curve_points i n (headOf (an_curve_points.loops.lookup i) s) := rfl
noncomputable def R_curve_points (i : Nat) (s : St) : Option (E × St) := stepL Try.prog c_curve_points an_curve_points 29 (bodyOf Try.f59) i s
theorem lok_curve_points : okLoops (bodyOf Try.f59) = true := by kernel_rfl
theorem L_curve_points_zero (i : Nat) (s : St) : L_curve_points i 0 s = none := rfl
theorem L_curve_points_succ (i n : Nat) (s : St) : L_curve_points i (n + 1) s = andThen (R_curve_points i s) (H_curve_points n i) := atN_succ lok_curve_points i n s
theorem R_curve_points_eq (i : Nat) (s : St) : R_curve_points i s = runS Try.prog c_curve_points (H_curve_points bigL) an_curve_points 29 (loopAt (bodyOf Try.f59) i) s := rfl
theorem F_curve_points_eq (ds : List D) : F_curve_points ds = runG Try.prog c_curve_points (H_curve_points bigL) an_curve_points 29 (bodyOf Try.f59) [.tmp 4] ds := runG_eq lok_curve_points _ ds
theorem C_curve_points (ds : List D) (r : D) (h : F_curve_points ds = some r) : Contract Try.prog 59 ds r := contract_of mix Try.func59 rfl (by kernel_rfl) (by kernel_rfl) (callOf_ok cl_curve_points trivial) h
-- sawmill/curve.Check: loops [6]; state: params 0..0, then [2, 3, 4, 11, 12, 13]
attribute [simp] Try.f70
noncomputable def an_curve_Check : Ann := ⟨[0, 2, 3, 4, 11, 12, 13], [7, 10, 14, 27, 40], [], [(6, [0, 11, 12, 13])], [(0, []), (1, [0, 11, 12, 13])], some [2], [(10, 11)]⟩
@[simp] theorem an_curve_Check_draws : an_curve_Check.draws = [(10, 11)] := rfl
@[simp] theorem an_curve_Check_exits : an_curve_Check.exits = [(0, []), (1, [0, 11, 12, 13])] := rfl
@[simp] theorem an_curve_Check_rets : an_curve_Check.rets = some [2] := rfl
@[simp] theorem an_curve_Check_keep : an_curve_Check.keep = [0, 2, 3, 4, 11, 12, 13] := rfl
@[simp] theorem an_curve_Check_cond : an_curve_Check.cond = [7, 10, 14, 27, 40] := rfl
@[simp] theorem an_curve_Check_rows : an_curve_Check.rows = [] := rfl
@[simp] theorem an_curve_Check_loops : an_curve_Check.loops = [(6, [0, 11, 12, 13])] := rfl
@[simp] noncomputable def cl_curve_Check : List (Nat × (List D → Option D)) := [(69, F_curve_inRange)]
@[simp] noncomputable def c_curve_Check (f : FuncId) (ds : List D) : Option D := callOf cl_curve_Check f ds
noncomputable def F_curve_Check (ds : List D) : Option D := runF Try.prog c_curve_Check an_curve_Check 42 (bodyOf Try.f70) [.tmp 2] ds
noncomputable def L_curve_Check (i n : Nat) (s : St) : Option (E × St) := atN Try.prog c_curve_Check an_curve_Check 42 (bodyOf Try.f70) i n s
noncomputable def H_curve_Check (n i : Nat) (s : St) : Option (E × St) := atH Try.prog c_curve_Check an_curve_Check 42 (bodyOf Try.f70) n i s
@[simp] theorem H_curve_Check_eq (n i : Nat) (s : St) : H_curve_Check n i s = L_curve_Check i n (headOf (an_curve_Check.loops.lookup i) s) := rfl
noncomputable def R_curve_Check (i : Nat) (s : St) : Option (E × St) := stepL Try.prog c_curve_Check an_curve_Check 42 (bodyOf Try.f70) i s
theorem lok_curve_Check : okLoops (bodyOf Try.f70) = true := by kernel_rfl
theorem L_curve_Check_zero (i : Nat) (s : St) : L_curve_Check i 0 s = none := rfl
theorem L_curve_Check_succ (i n : Nat) (s : St) : L_curve_Check i (n + 1) s = andThen (R_curve_Check i s) (H_curve_Check n i) := atN_succ lok_curve_Check i n s
theorem R_curve_Check_eq (i : Nat) (s : St) : R_curve_Check i s = runS Try.prog c_curve_Check (H_curve_Check bigL) an_curve_Check 42 (loopAt (bodyOf Try.f70) i) s := rfl
theorem F_curve_Check_eq (ds : List D) : F_curve_Check ds = runG Try.prog c_curve_Check (H_curve_Check bigL) an_curve_Check 42 (bodyOf Try.f70) [.tmp 2] ds := runG_eq lok_curve_Check _ ds
theorem C_curve_Check (ds : List D) (r : D) (h : F_curve_Check ds = some r) : Contract Try.prog 70 ds r := contract_of mix Try.func70 rfl (by kernel_rfl) (by kernel_rfl) (callOf_ok cl_curve_Check ⟨C_curve_inRange, trivial⟩) h
-- sawmill/curve.floor: loops []; state: params 0..1, then [4, 5]
attribute [simp] Try.f71
noncomputable def an_curve_floor : Ann := ⟨[0, 1, 4, 5], [12], [], [], [], some [4], []⟩
@[simp] theorem an_curve_floor_draws : an_curve_floor.draws = [] := rfl
@[simp] theorem an_curve_floor_exits : an_curve_floor.exits = [] := rfl
@[simp] theorem an_curve_floor_rets : an_curve_floor.rets = some [4] := rfl
@[simp] theorem an_curve_floor_keep : an_curve_floor.keep = [0, 1, 4, 5] := rfl
@[simp] theorem an_curve_floor_cond : an_curve_floor.cond = [12] := rfl
@[simp] theorem an_curve_floor_rows : an_curve_floor.rows = [] := rfl
@[simp] theorem an_curve_floor_loops : an_curve_floor.loops = [] := rfl
@[simp] noncomputable def cl_curve_floor : List (Nat × (List D → Option D)) := []
@[simp] noncomputable def c_curve_floor (f : FuncId) (ds : List D) : Option D := callOf cl_curve_floor f ds
noncomputable def F_curve_floor (ds : List D) : Option D := runF Try.prog c_curve_floor an_curve_floor 16 (bodyOf Try.f71) [.tmp 4] ds
noncomputable def L_curve_floor (i n : Nat) (s : St) : Option (E × St) := atN Try.prog c_curve_floor an_curve_floor 16 (bodyOf Try.f71) i n s
noncomputable def H_curve_floor (n i : Nat) (s : St) : Option (E × St) := atH Try.prog c_curve_floor an_curve_floor 16 (bodyOf Try.f71) n i s
@[simp] theorem H_curve_floor_eq (n i : Nat) (s : St) : H_curve_floor n i s = L_curve_floor i n (headOf (an_curve_floor.loops.lookup i) s) := rfl
noncomputable def R_curve_floor (i : Nat) (s : St) : Option (E × St) := stepL Try.prog c_curve_floor an_curve_floor 16 (bodyOf Try.f71) i s
theorem lok_curve_floor : okLoops (bodyOf Try.f71) = true := by kernel_rfl
theorem F_curve_floor_eq (ds : List D) : F_curve_floor ds = runG Try.prog c_curve_floor (H_curve_floor bigL) an_curve_floor 16 (bodyOf Try.f71) [.tmp 4] ds := runG_eq lok_curve_floor _ ds
theorem C_curve_floor (ds : List D) (r : D) (h : F_curve_floor ds = some r) : Contract Try.prog 71 ds r := contract_of mix Try.func71 rfl (by kernel_rfl) (by kernel_rfl) (callOf_ok cl_curve_floor trivial) h
-- sawmill/curve.At: loops [6]; state: params 0..1, then [4, 5, 6, 7]
attribute [simp] Try.f58
noncomputable def an_curve_At : Ann := ⟨[0, 1, 4, 5, 6, 7], [10, 16, 24, 33], [], [(6, [0, 1, 5])], [(0, [0]), (1, [0, 1, 5])], some [4], [(9, 12), (10, 18)]⟩
@[simp] theorem an_curve_At_draws : an_curve_At.draws = [(9, 12), (10, 18)] := rfl
@[simp] theorem an_curve_At_exits : an_curve_At.exits = [(0, [0]), (1, [0, 1, 5])] := rfl
@[simp] theorem an_curve_At_rets : an_curve_At.rets = some [4] := rfl
@[simp] theorem an_curve_At_keep : an_curve_At.keep = [0, 1, 4, 5, 6, 7] := rfl
@[simp] theorem an_curve_At_cond : an_curve_At.cond = [10, 16, 24, 33] := rfl
@[simp] theorem an_curve_At_rows : an_curve_At.rows = [] := rfl
@[simp] theorem an_curve_At_loops : an_curve_At.loops = [(6, [0, 1, 5])] := rfl
@[simp] noncomputable def cl_curve_At : List (Nat × (List D → Option D)) := [(70, F_curve_Check), (71, F_curve_floor)]
@[simp] noncomputable def c_curve_At (f : FuncId) (ds : List D) : Option D := callOf cl_curve_At f ds
noncomputable def F_curve_At (ds : List D) : Option D := runF Try.prog c_curve_At an_curve_At 69 (bodyOf Try.f58) [.tmp 4] ds
noncomputable def L_curve_At (i n : Nat) (s : St) : Option (E × St) := atN Try.prog c_curve_At an_curve_At 69 (bodyOf Try.f58) i n s
noncomputable def H_curve_At (n i : Nat) (s : St) : Option (E × St) := atH Try.prog c_curve_At an_curve_At 69 (bodyOf Try.f58) n i s
@[simp] theorem H_curve_At_eq (n i : Nat) (s : St) : H_curve_At n i s = L_curve_At i n (headOf (an_curve_At.loops.lookup i) s) := rfl
noncomputable def R_curve_At (i : Nat) (s : St) : Option (E × St) := stepL Try.prog c_curve_At an_curve_At 69 (bodyOf Try.f58) i s
theorem lok_curve_At : okLoops (bodyOf Try.f58) = true := by kernel_rfl
theorem L_curve_At_zero (i : Nat) (s : St) : L_curve_At i 0 s = none := rfl
theorem L_curve_At_succ (i n : Nat) (s : St) : L_curve_At i (n + 1) s = andThen (R_curve_At i s) (H_curve_At n i) := atN_succ lok_curve_At i n s
theorem R_curve_At_eq (i : Nat) (s : St) : R_curve_At i s = runS Try.prog c_curve_At (H_curve_At bigL) an_curve_At 69 (loopAt (bodyOf Try.f58) i) s := rfl
theorem F_curve_At_eq (ds : List D) : F_curve_At ds = runG Try.prog c_curve_At (H_curve_At bigL) an_curve_At 69 (bodyOf Try.f58) [.tmp 4] ds := runG_eq lok_curve_At _ ds
theorem C_curve_At (ds : List D) (r : D) (h : F_curve_At ds = some r) : Contract Try.prog 58 ds r := contract_of mix Try.func58 rfl (by kernel_rfl) (by kernel_rfl) (callOf_ok cl_curve_At ⟨C_curve_Check, C_curve_floor, trivial⟩) h
-- sawmill/curve.Value: loops [5]; state: params 0..2, then [3, 6, 7, 8, 9, 14, 15, 16]
attribute [simp] Try.f43
noncomputable def an_curve_Value : Ann := ⟨[3, 6, 7, 8, 9, 14, 15, 16], [12, 17], [], [(5, [1, 2, 3, 7, 14, 15, 16])], [(0, [1, 3, 7]), (1, [1, 2, 3, 7, 14, 15, 16])], some [6], [(9, 5)]⟩
@[simp] theorem an_curve_Value_draws : an_curve_Value.draws = [(9, 5)] := rfl
@[simp] theorem an_curve_Value_exits : an_curve_Value.exits = [(0, [1, 3, 7]), (1, [1, 2, 3, 7, 14, 15, 16])] := rfl
@[simp] theorem an_curve_Value_rets : an_curve_Value.rets = some [6] := rfl
@[simp] theorem an_curve_Value_keep : an_curve_Value.keep = [3, 6, 7, 8, 9, 14, 15, 16] := rfl
@[simp] theorem an_curve_Value_cond : an_curve_Value.cond = [12, 17] := rfl
@[simp] theorem an_curve_Value_rows : an_curve_Value.rows = [] := rfl
@[simp] theorem an_curve_Value_loops : an_curve_Value.loops = [(5, [1, 2, 3, 7, 14, 15, 16])] := rfl
@[simp] noncomputable def cl_curve_Value : List (Nat × (List D → Option D)) := [(57, F_curve_CheckGrid), (58, F_curve_At), (59, F_curve_points)]
@[simp] noncomputable def c_curve_Value (f : FuncId) (ds : List D) : Option D := callOf cl_curve_Value f ds
noncomputable def F_curve_Value (ds : List D) : Option D := runF Try.prog c_curve_Value an_curve_Value 36 (bodyOf Try.f43) [.tmp 6] ds
noncomputable def L_curve_Value (i n : Nat) (s : St) : Option (E × St) := atN Try.prog c_curve_Value an_curve_Value 36 (bodyOf Try.f43) i n s
noncomputable def H_curve_Value (n i : Nat) (s : St) : Option (E × St) := atH Try.prog c_curve_Value an_curve_Value 36 (bodyOf Try.f43) n i s
@[simp] theorem H_curve_Value_eq (n i : Nat) (s : St) : H_curve_Value n i s = L_curve_Value i n (headOf (an_curve_Value.loops.lookup i) s) := rfl
noncomputable def R_curve_Value (i : Nat) (s : St) : Option (E × St) := stepL Try.prog c_curve_Value an_curve_Value 36 (bodyOf Try.f43) i s
theorem lok_curve_Value : okLoops (bodyOf Try.f43) = true := by kernel_rfl
theorem L_curve_Value_zero (i : Nat) (s : St) : L_curve_Value i 0 s = none := rfl
theorem L_curve_Value_succ (i n : Nat) (s : St) : L_curve_Value i (n + 1) s = andThen (R_curve_Value i s) (H_curve_Value n i) := atN_succ lok_curve_Value i n s
theorem R_curve_Value_eq (i : Nat) (s : St) : R_curve_Value i s = runS Try.prog c_curve_Value (H_curve_Value bigL) an_curve_Value 36 (loopAt (bodyOf Try.f43) i) s := rfl
theorem F_curve_Value_eq (ds : List D) : F_curve_Value ds = runG Try.prog c_curve_Value (H_curve_Value bigL) an_curve_Value 36 (bodyOf Try.f43) [.tmp 6] ds := runG_eq lok_curve_Value _ ds
theorem C_curve_Value (ds : List D) (r : D) (h : F_curve_Value ds = some r) : Contract Try.prog 43 ds r := contract_of mix Try.func43 rfl (by kernel_rfl) (by kernel_rfl) (callOf_ok cl_curve_Value ⟨C_curve_CheckGrid, C_curve_At, C_curve_points, trivial⟩) h
-- sawmill/air.Emc: loops []; state: params 0..0, then [1, 2]
attribute [simp] Try.f21
noncomputable def an_air_Emc : Ann := ⟨[1, 2], [], [], [], [], some [2], [(1, 5)]⟩
@[simp] theorem an_air_Emc_draws : an_air_Emc.draws = [(1, 5)] := rfl
@[simp] theorem an_air_Emc_exits : an_air_Emc.exits = [] := rfl
@[simp] theorem an_air_Emc_rets : an_air_Emc.rets = some [2] := rfl
@[simp] theorem an_air_Emc_keep : an_air_Emc.keep = [1, 2] := rfl
@[simp] theorem an_air_Emc_cond : an_air_Emc.cond = [] := rfl
@[simp] theorem an_air_Emc_rows : an_air_Emc.rows = [] := rfl
@[simp] theorem an_air_Emc_loops : an_air_Emc.loops = [] := rfl
@[simp] noncomputable def cl_air_Emc : List (Nat × (List D → Option D)) := [(15, F_air_Table), (43, F_curve_Value)]
@[simp] noncomputable def c_air_Emc (f : FuncId) (ds : List D) : Option D := callOf cl_air_Emc f ds
noncomputable def F_air_Emc (ds : List D) : Option D := runF Try.prog c_air_Emc an_air_Emc 9 (bodyOf Try.f21) [.tmp 2] ds
noncomputable def L_air_Emc (i n : Nat) (s : St) : Option (E × St) := atN Try.prog c_air_Emc an_air_Emc 9 (bodyOf Try.f21) i n s
noncomputable def H_air_Emc (n i : Nat) (s : St) : Option (E × St) := atH Try.prog c_air_Emc an_air_Emc 9 (bodyOf Try.f21) n i s
@[simp] theorem H_air_Emc_eq (n i : Nat) (s : St) : H_air_Emc n i s = L_air_Emc i n (headOf (an_air_Emc.loops.lookup i) s) := rfl
noncomputable def R_air_Emc (i : Nat) (s : St) : Option (E × St) := stepL Try.prog c_air_Emc an_air_Emc 9 (bodyOf Try.f21) i s
theorem lok_air_Emc : okLoops (bodyOf Try.f21) = true := by kernel_rfl
theorem F_air_Emc_eq (ds : List D) : F_air_Emc ds = runG Try.prog c_air_Emc (H_air_Emc bigL) an_air_Emc 9 (bodyOf Try.f21) [.tmp 2] ds := runG_eq lok_air_Emc _ ds
theorem C_air_Emc (ds : List D) (r : D) (h : F_air_Emc ds = some r) : Contract Try.prog 21 ds r := contract_of mix Try.func21 rfl (by kernel_rfl) (by kernel_rfl) (callOf_ok cl_air_Emc ⟨C_air_Table, C_curve_Value, trivial⟩) h
-- sawmill/air.Outside: loops []; state: params 0..-1, then [0]
attribute [simp] Try.f26
noncomputable def an_air_Outside : Ann := ⟨[0], [], [], [], [], some [0], []⟩
@[simp] theorem an_air_Outside_draws : an_air_Outside.draws = [] := rfl
@[simp] theorem an_air_Outside_exits : an_air_Outside.exits = [] := rfl
@[simp] theorem an_air_Outside_rets : an_air_Outside.rets = some [0] := rfl
@[simp] theorem an_air_Outside_keep : an_air_Outside.keep = [0] := rfl
@[simp] theorem an_air_Outside_cond : an_air_Outside.cond = [] := rfl
@[simp] theorem an_air_Outside_rows : an_air_Outside.rows = [] := rfl
@[simp] theorem an_air_Outside_loops : an_air_Outside.loops = [] := rfl
@[simp] noncomputable def cl_air_Outside : List (Nat × (List D → Option D)) := []
@[simp] noncomputable def c_air_Outside (f : FuncId) (ds : List D) : Option D := callOf cl_air_Outside f ds
noncomputable def F_air_Outside (ds : List D) : Option D := runF Try.prog c_air_Outside an_air_Outside 2 (bodyOf Try.f26) [.cell 0 30] ds
noncomputable def L_air_Outside (i n : Nat) (s : St) : Option (E × St) := atN Try.prog c_air_Outside an_air_Outside 2 (bodyOf Try.f26) i n s
noncomputable def H_air_Outside (n i : Nat) (s : St) : Option (E × St) := atH Try.prog c_air_Outside an_air_Outside 2 (bodyOf Try.f26) n i s
@[simp] theorem H_air_Outside_eq (n i : Nat) (s : St) : H_air_Outside n i s = L_air_Outside i n (headOf (an_air_Outside.loops.lookup i) s) := rfl
noncomputable def R_air_Outside (i : Nat) (s : St) : Option (E × St) := stepL Try.prog c_air_Outside an_air_Outside 2 (bodyOf Try.f26) i s
theorem lok_air_Outside : okLoops (bodyOf Try.f26) = true := by kernel_rfl
theorem F_air_Outside_eq (ds : List D) : F_air_Outside ds = runG Try.prog c_air_Outside (H_air_Outside bigL) an_air_Outside 2 (bodyOf Try.f26) [.cell 0 30] ds := runG_eq lok_air_Outside _ ds
theorem C_air_Outside (ds : List D) (r : D) (h : F_air_Outside ds = some r) : Contract Try.prog 26 ds r := contract_of mix Try.func26 rfl (by kernel_rfl) (by kernel_rfl) (callOf_ok cl_air_Outside trivial) h
-- sawmill/units.Clamp: loops []; state: params 0..2, then [6]
attribute [simp] Try.f47
noncomputable def an_units_Clamp : Ann := ⟨[0, 1, 2, 6], [7, 17], [], [], [(0, [0])], some [6], []⟩
@[simp] theorem an_units_Clamp_draws : an_units_Clamp.draws = [] := rfl
@[simp] theorem an_units_Clamp_exits : an_units_Clamp.exits = [(0, [0])] := rfl
@[simp] theorem an_units_Clamp_rets : an_units_Clamp.rets = some [6] := rfl
@[simp] theorem an_units_Clamp_keep : an_units_Clamp.keep = [0, 1, 2, 6] := rfl
@[simp] theorem an_units_Clamp_cond : an_units_Clamp.cond = [7, 17] := rfl
@[simp] theorem an_units_Clamp_rows : an_units_Clamp.rows = [] := rfl
@[simp] theorem an_units_Clamp_loops : an_units_Clamp.loops = [] := rfl
@[simp] noncomputable def cl_units_Clamp : List (Nat × (List D → Option D)) := []
@[simp] noncomputable def c_units_Clamp (f : FuncId) (ds : List D) : Option D := callOf cl_units_Clamp f ds
noncomputable def F_units_Clamp (ds : List D) : Option D := runF Try.prog c_units_Clamp an_units_Clamp 23 (bodyOf Try.f47) [.tmp 6] ds
noncomputable def L_units_Clamp (i n : Nat) (s : St) : Option (E × St) := atN Try.prog c_units_Clamp an_units_Clamp 23 (bodyOf Try.f47) i n s
noncomputable def H_units_Clamp (n i : Nat) (s : St) : Option (E × St) := atH Try.prog c_units_Clamp an_units_Clamp 23 (bodyOf Try.f47) n i s
@[simp] theorem H_units_Clamp_eq (n i : Nat) (s : St) : H_units_Clamp n i s = L_units_Clamp i n (headOf (an_units_Clamp.loops.lookup i) s) := rfl
noncomputable def R_units_Clamp (i : Nat) (s : St) : Option (E × St) := stepL Try.prog c_units_Clamp an_units_Clamp 23 (bodyOf Try.f47) i s
theorem lok_units_Clamp : okLoops (bodyOf Try.f47) = true := by kernel_rfl
theorem F_units_Clamp_eq (ds : List D) : F_units_Clamp ds = runG Try.prog c_units_Clamp (H_units_Clamp bigL) an_units_Clamp 23 (bodyOf Try.f47) [.tmp 6] ds := runG_eq lok_units_Clamp _ ds
theorem C_units_Clamp (ds : List D) (r : D) (h : F_units_Clamp ds = some r) : Contract Try.prog 47 ds r := contract_of mix Try.func47 rfl (by kernel_rfl) (by kernel_rfl) (callOf_ok cl_units_Clamp trivial) h
-- sawmill/air.clamp: loops []; state: params 0..0, then [1, 2]
attribute [simp] Try.f45
noncomputable def an_air_clamp : Ann := ⟨[1, 2], [], [], [], [], some [2], [(1, 5)]⟩
@[simp] theorem an_air_clamp_draws : an_air_clamp.draws = [(1, 5)] := rfl
@[simp] theorem an_air_clamp_exits : an_air_clamp.exits = [] := rfl
@[simp] theorem an_air_clamp_rets : an_air_clamp.rets = some [2] := rfl
@[simp] theorem an_air_clamp_keep : an_air_clamp.keep = [1, 2] := rfl
@[simp] theorem an_air_clamp_cond : an_air_clamp.cond = [] := rfl
@[simp] theorem an_air_clamp_rows : an_air_clamp.rows = [] := rfl
@[simp] theorem an_air_clamp_loops : an_air_clamp.loops = [] := rfl
@[simp] noncomputable def cl_air_clamp : List (Nat × (List D → Option D)) := [(47, F_units_Clamp)]
@[simp] noncomputable def c_air_clamp (f : FuncId) (ds : List D) : Option D := callOf cl_air_clamp f ds
noncomputable def F_air_clamp (ds : List D) : Option D := runF Try.prog c_air_clamp an_air_clamp 10 (bodyOf Try.f45) [.cell 2 30] ds
noncomputable def L_air_clamp (i n : Nat) (s : St) : Option (E × St) := atN Try.prog c_air_clamp an_air_clamp 10 (bodyOf Try.f45) i n s
noncomputable def H_air_clamp (n i : Nat) (s : St) : Option (E × St) := atH Try.prog c_air_clamp an_air_clamp 10 (bodyOf Try.f45) n i s
@[simp] theorem H_air_clamp_eq (n i : Nat) (s : St) : H_air_clamp n i s = L_air_clamp i n (headOf (an_air_clamp.loops.lookup i) s) := rfl
noncomputable def R_air_clamp (i : Nat) (s : St) : Option (E × St) := stepL Try.prog c_air_clamp an_air_clamp 10 (bodyOf Try.f45) i s
theorem lok_air_clamp : okLoops (bodyOf Try.f45) = true := by kernel_rfl
theorem F_air_clamp_eq (ds : List D) : F_air_clamp ds = runG Try.prog c_air_clamp (H_air_clamp bigL) an_air_clamp 10 (bodyOf Try.f45) [.cell 2 30] ds := runG_eq lok_air_clamp _ ds
theorem C_air_clamp (ds : List D) (r : D) (h : F_air_clamp ds = some r) : Contract Try.prog 45 ds r := contract_of mix Try.func45 rfl (by kernel_rfl) (by kernel_rfl) (callOf_ok cl_air_clamp ⟨C_units_Clamp, trivial⟩) h
-- slices.Index[[]int,int]: loops [2]; state: params 0..1, then [4, 5, 7, 8]
attribute [simp] Try.f76
noncomputable def an_slices_Index_int_int : Ann := ⟨[0, 4, 5, 7, 8], [9, 16], [], [(2, [0, 1, 7, 8])], [(0, []), (1, [0, 1, 7, 8])], some [4], []⟩
@[simp] theorem an_slices_Index_int_int_draws : an_slices_Index_int_int.draws = [] := rfl
@[simp] theorem an_slices_Index_int_int_exits : an_slices_Index_int_int.exits = [(0, []), (1, [0, 1, 7, 8])] := rfl
@[simp] theorem an_slices_Index_int_int_rets : an_slices_Index_int_int.rets = some [4] := rfl
@[simp] theorem an_slices_Index_int_int_keep : an_slices_Index_int_int.keep = [0, 4, 5, 7, 8] := rfl
@[simp] theorem an_slices_Index_int_int_cond : an_slices_Index_int_int.cond = [9, 16] := rfl
@[simp] theorem an_slices_Index_int_int_rows : an_slices_Index_int_int.rows = [] := rfl
@[simp] theorem an_slices_Index_int_int_loops : an_slices_Index_int_int.loops = [(2, [0, 1, 7, 8])] := rfl
@[simp] noncomputable def cl_slices_Index_int_int : List (Nat × (List D → Option D)) := []
@[simp] noncomputable def c_slices_Index_int_int (f : FuncId) (ds : List D) : Option D := callOf cl_slices_Index_int_int f ds
noncomputable def F_slices_Index_int_int (ds : List D) : Option D := runF Try.prog c_slices_Index_int_int an_slices_Index_int_int 19 (bodyOf Try.f76) [.tmp 4] ds
noncomputable def L_slices_Index_int_int (i n : Nat) (s : St) : Option (E × St) := atN Try.prog c_slices_Index_int_int an_slices_Index_int_int 19 (bodyOf Try.f76) i n s
noncomputable def H_slices_Index_int_int (n i : Nat) (s : St) : Option (E × St) := atH Try.prog c_slices_Index_int_int an_slices_Index_int_int 19 (bodyOf Try.f76) n i s
@[simp] theorem H_slices_Index_int_int_eq (n i : Nat) (s : St) : H_slices_Index_int_int n i s = L_slices_Index_int_int i n (headOf (an_slices_Index_int_int.loops.lookup i) s) := rfl
noncomputable def R_slices_Index_int_int (i : Nat) (s : St) : Option (E × St) := stepL Try.prog c_slices_Index_int_int an_slices_Index_int_int 19 (bodyOf Try.f76) i s
theorem lok_slices_Index_int_int : okLoops (bodyOf Try.f76) = true := by kernel_rfl
theorem L_slices_Index_int_int_zero (i : Nat) (s : St) : L_slices_Index_int_int i 0 s = none := rfl
theorem L_slices_Index_int_int_succ (i n : Nat) (s : St) : L_slices_Index_int_int i (n + 1) s = andThen (R_slices_Index_int_int i s) (H_slices_Index_int_int n i) := atN_succ lok_slices_Index_int_int i n s
theorem R_slices_Index_int_int_eq (i : Nat) (s : St) : R_slices_Index_int_int i s = runS Try.prog c_slices_Index_int_int (H_slices_Index_int_int bigL) an_slices_Index_int_int 19 (loopAt (bodyOf Try.f76) i) s := rfl
theorem F_slices_Index_int_int_eq (ds : List D) : F_slices_Index_int_int ds = runG Try.prog c_slices_Index_int_int (H_slices_Index_int_int bigL) an_slices_Index_int_int 19 (bodyOf Try.f76) [.tmp 4] ds := runG_eq lok_slices_Index_int_int _ ds
theorem C_slices_Index_int_int (ds : List D) (r : D) (h : F_slices_Index_int_int ds = some r) : Contract Try.prog 76 ds r := contract_of mix Try.func76 rfl (by kernel_rfl) (by kernel_rfl) (callOf_ok cl_slices_Index_int_int trivial) h
-- slices.Contains[[]int,int]: loops []; state: params 0..1, then [4]
attribute [simp] Try.f63
noncomputable def an_slices_Contains_int_int : Ann := ⟨[4], [], [], [], [], some [4], []⟩
@[simp] theorem an_slices_Contains_int_int_draws : an_slices_Contains_int_int.draws = [] := rfl
@[simp] theorem an_slices_Contains_int_int_exits : an_slices_Contains_int_int.exits = [] := rfl
@[simp] theorem an_slices_Contains_int_int_rets : an_slices_Contains_int_int.rets = some [4] := rfl
@[simp] theorem an_slices_Contains_int_int_keep : an_slices_Contains_int_int.keep = [4] := rfl
@[simp] theorem an_slices_Contains_int_int_cond : an_slices_Contains_int_int.cond = [] := rfl
@[simp] theorem an_slices_Contains_int_int_rows : an_slices_Contains_int_int.rows = [] := rfl
@[simp] theorem an_slices_Contains_int_int_loops : an_slices_Contains_int_int.loops = [] := rfl
@[simp] noncomputable def cl_slices_Contains_int_int : List (Nat × (List D → Option D)) := [(76, F_slices_Index_int_int)]
@[simp] noncomputable def c_slices_Contains_int_int (f : FuncId) (ds : List D) : Option D := callOf cl_slices_Contains_int_int f ds
noncomputable def F_slices_Contains_int_int (ds : List D) : Option D := runF Try.prog c_slices_Contains_int_int an_slices_Contains_int_int 9 (bodyOf Try.f63) [.tmp 4] ds
noncomputable def L_slices_Contains_int_int (i n : Nat) (s : St) : Option (E × St) := atN Try.prog c_slices_Contains_int_int an_slices_Contains_int_int 9 (bodyOf Try.f63) i n s
noncomputable def H_slices_Contains_int_int (n i : Nat) (s : St) : Option (E × St) := atH Try.prog c_slices_Contains_int_int an_slices_Contains_int_int 9 (bodyOf Try.f63) n i s
@[simp] theorem H_slices_Contains_int_int_eq (n i : Nat) (s : St) : H_slices_Contains_int_int n i s = L_slices_Contains_int_int i n (headOf (an_slices_Contains_int_int.loops.lookup i) s) := rfl
noncomputable def R_slices_Contains_int_int (i : Nat) (s : St) : Option (E × St) := stepL Try.prog c_slices_Contains_int_int an_slices_Contains_int_int 9 (bodyOf Try.f63) i s
theorem lok_slices_Contains_int_int : okLoops (bodyOf Try.f63) = true := by kernel_rfl
theorem F_slices_Contains_int_int_eq (ds : List D) : F_slices_Contains_int_int ds = runG Try.prog c_slices_Contains_int_int (H_slices_Contains_int_int bigL) an_slices_Contains_int_int 9 (bodyOf Try.f63) [.tmp 4] ds := runG_eq lok_slices_Contains_int_int _ ds
theorem C_slices_Contains_int_int (ds : List D) (r : D) (h : F_slices_Contains_int_int ds = some r) : Contract Try.prog 63 ds r := contract_of mix Try.func63 rfl (by kernel_rfl) (by kernel_rfl) (callOf_ok cl_slices_Contains_int_int ⟨C_slices_Index_int_int, trivial⟩) h
-- sawmill/air.toward: loops []; state: params 0..1, then [2, 4, 5, 6]
attribute [simp] Try.f46
noncomputable def an_air_toward : Ann := ⟨[1, 2, 4, 5, 6], [11, 16, 18], [], [], [(0, [2, 4]), (1, [2, 4]), (2, [2, 4]), (3, [2, 4])], some [4], []⟩
@[simp] theorem an_air_toward_draws : an_air_toward.draws = [] := rfl
@[simp] theorem an_air_toward_exits : an_air_toward.exits = [(0, [2, 4]), (1, [2, 4]), (2, [2, 4]), (3, [2, 4])] := rfl
@[simp] theorem an_air_toward_rets : an_air_toward.rets = some [4] := rfl
@[simp] theorem an_air_toward_keep : an_air_toward.keep = [1, 2, 4, 5, 6] := rfl
@[simp] theorem an_air_toward_cond : an_air_toward.cond = [11, 16, 18] := rfl
@[simp] theorem an_air_toward_rows : an_air_toward.rows = [] := rfl
@[simp] theorem an_air_toward_loops : an_air_toward.loops = [] := rfl
@[simp] noncomputable def cl_air_toward : List (Nat × (List D → Option D)) := [(26, F_air_Outside), (63, F_slices_Contains_int_int)]
@[simp] noncomputable def c_air_toward (f : FuncId) (ds : List D) : Option D := callOf cl_air_toward f ds
noncomputable def F_air_toward (ds : List D) : Option D := runF Try.prog c_air_toward an_air_toward 30 (bodyOf Try.f46) [.cell 4 30] ds
noncomputable def L_air_toward (i n : Nat) (s : St) : Option (E × St) := atN Try.prog c_air_toward an_air_toward 30 (bodyOf Try.f46) i n s
noncomputable def H_air_toward (n i : Nat) (s : St) : Option (E × St) := atH Try.prog c_air_toward an_air_toward 30 (bodyOf Try.f46) n i s
@[simp] theorem H_air_toward_eq (n i : Nat) (s : St) : H_air_toward n i s = L_air_toward i n (headOf (an_air_toward.loops.lookup i) s) := rfl
noncomputable def R_air_toward (i : Nat) (s : St) : Option (E × St) := stepL Try.prog c_air_toward an_air_toward 30 (bodyOf Try.f46) i s
theorem lok_air_toward : okLoops (bodyOf Try.f46) = true := by kernel_rfl
theorem F_air_toward_eq (ds : List D) : F_air_toward ds = runG Try.prog c_air_toward (H_air_toward bigL) an_air_toward 30 (bodyOf Try.f46) [.cell 4 30] ds := runG_eq lok_air_toward _ ds
theorem C_air_toward (ds : List D) (r : D) (h : F_air_toward ds = some r) : Contract Try.prog 46 ds r := contract_of mix Try.func46 rfl (by kernel_rfl) (by kernel_rfl) (callOf_ok cl_air_toward ⟨C_air_Outside, C_slices_Contains_int_int, trivial⟩) h
-- sawmill/air.Next: loops []; state: params 0..3, then [4, 5, 8, 9]
attribute [simp] Try.f23
noncomputable def an_air_Next : Ann := ⟨[2, 4, 5, 8, 9], [], [], [], [], some [8], [(4, 21)]⟩
@[simp] theorem an_air_Next_draws : an_air_Next.draws = [(4, 21)] := rfl
@[simp] theorem an_air_Next_exits : an_air_Next.exits = [] := rfl
@[simp] theorem an_air_Next_rets : an_air_Next.rets = some [8] := rfl
@[simp] theorem an_air_Next_keep : an_air_Next.keep = [2, 4, 5, 8, 9] := rfl
@[simp] theorem an_air_Next_cond : an_air_Next.cond = [] := rfl
@[simp] theorem an_air_Next_rows : an_air_Next.rows = [] := rfl
@[simp] theorem an_air_Next_loops : an_air_Next.loops = [] := rfl
@[simp] noncomputable def cl_air_Next : List (Nat × (List D → Option D)) := [(45, F_air_clamp), (46, F_air_toward), (47, F_units_Clamp)]
@[simp] noncomputable def c_air_Next (f : FuncId) (ds : List D) : Option D := callOf cl_air_Next f ds
noncomputable def F_air_Next (ds : List D) : Option D := runF Try.prog c_air_Next an_air_Next 41 (bodyOf Try.f23) [.cell 8 30] ds
noncomputable def L_air_Next (i n : Nat) (s : St) : Option (E × St) := atN Try.prog c_air_Next an_air_Next 41 (bodyOf Try.f23) i n s
noncomputable def H_air_Next (n i : Nat) (s : St) : Option (E × St) := atH Try.prog c_air_Next an_air_Next 41 (bodyOf Try.f23) n i s
@[simp] theorem H_air_Next_eq (n i : Nat) (s : St) : H_air_Next n i s = L_air_Next i n (headOf (an_air_Next.loops.lookup i) s) := rfl
noncomputable def R_air_Next (i : Nat) (s : St) : Option (E × St) := stepL Try.prog c_air_Next an_air_Next 41 (bodyOf Try.f23) i s
theorem lok_air_Next : okLoops (bodyOf Try.f23) = true := by kernel_rfl
theorem F_air_Next_eq (ds : List D) : F_air_Next ds = runG Try.prog c_air_Next (H_air_Next bigL) an_air_Next 41 (bodyOf Try.f23) [.cell 8 30] ds := runG_eq lok_air_Next _ ds
theorem C_air_Next (ds : List D) (r : D) (h : F_air_Next ds = some r) : Contract Try.prog 23 ds r := contract_of mix Try.func23 rfl (by kernel_rfl) (by kernel_rfl) (callOf_ok cl_air_Next ⟨C_air_clamp, C_air_toward, C_units_Clamp, trivial⟩) h
-- sawmill/sawmilllaw35.awake: loops []; state: params 0..-1, then [0]
attribute [simp] Try.f18
noncomputable def an_law35_awake : Ann := ⟨[0], [], [], [], [], some [0], []⟩
@[simp] theorem an_law35_awake_draws : an_law35_awake.draws = [] := rfl
@[simp] theorem an_law35_awake_exits : an_law35_awake.exits = [] := rfl
@[simp] theorem an_law35_awake_rets : an_law35_awake.rets = some [0] := rfl
@[simp] theorem an_law35_awake_keep : an_law35_awake.keep = [0] := rfl
@[simp] theorem an_law35_awake_cond : an_law35_awake.cond = [] := rfl
@[simp] theorem an_law35_awake_rows : an_law35_awake.rows = [] := rfl
@[simp] theorem an_law35_awake_loops : an_law35_awake.loops = [] := rfl
@[simp] noncomputable def cl_law35_awake : List (Nat × (List D → Option D)) := [(19, F_air_Check), (21, F_air_Emc), (23, F_air_Next), (25, F_law35_at), (26, F_air_Outside)]
@[simp] noncomputable def c_law35_awake (f : FuncId) (ds : List D) : Option D := callOf cl_law35_awake f ds
noncomputable def F_law35_awake (ds : List D) : Option D := runF Try.prog c_law35_awake an_law35_awake 49 (bodyOf Try.f18) [.tmp 0] ds
noncomputable def L_law35_awake (i n : Nat) (s : St) : Option (E × St) := atN Try.prog c_law35_awake an_law35_awake 49 (bodyOf Try.f18) i n s
noncomputable def H_law35_awake (n i : Nat) (s : St) : Option (E × St) := atH Try.prog c_law35_awake an_law35_awake 49 (bodyOf Try.f18) n i s
@[simp] theorem H_law35_awake_eq (n i : Nat) (s : St) : H_law35_awake n i s = L_law35_awake i n (headOf (an_law35_awake.loops.lookup i) s) := rfl
noncomputable def R_law35_awake (i : Nat) (s : St) : Option (E × St) := stepL Try.prog c_law35_awake an_law35_awake 49 (bodyOf Try.f18) i s
theorem lok_law35_awake : okLoops (bodyOf Try.f18) = true := by kernel_rfl
theorem F_law35_awake_eq (ds : List D) : F_law35_awake ds = runG Try.prog c_law35_awake (H_law35_awake bigL) an_law35_awake 49 (bodyOf Try.f18) [.tmp 0] ds := runG_eq lok_law35_awake _ ds
theorem C_law35_awake (ds : List D) (r : D) (h : F_law35_awake ds = some r) : Contract Try.prog 18 ds r := contract_of mix Try.func18 rfl (by kernel_rfl) (by kernel_rfl) (callOf_ok cl_law35_awake ⟨C_air_Check, C_air_Emc, C_air_Next, C_law35_at, C_air_Outside, trivial⟩) h
-- sawmill/sawmilllaw35.AirTable: loops [5]; state: params 0..-1, then [0, 1, 2, 3]
attribute [simp] Try.f3
noncomputable def an_law35_AirTable : Ann := ⟨[0, 1, 2, 3], [28, 33, 47], [], [(5, [1, 2, 3])], [(0, []), (1, [1, 2, 3])], some [0], [(7, 10)]⟩
@[simp] theorem an_law35_AirTable_draws : an_law35_AirTable.draws = [(7, 10)] := rfl
@[simp] theorem an_law35_AirTable_exits : an_law35_AirTable.exits = [(0, []), (1, [1, 2, 3])] := rfl
@[simp] theorem an_law35_AirTable_rets : an_law35_AirTable.rets = some [0] := rfl
@[simp] theorem an_law35_AirTable_keep : an_law35_AirTable.keep = [0, 1, 2, 3] := rfl
@[simp] theorem an_law35_AirTable_cond : an_law35_AirTable.cond = [28, 33, 47] := rfl
@[simp] theorem an_law35_AirTable_rows : an_law35_AirTable.rows = [] := rfl
@[simp] theorem an_law35_AirTable_loops : an_law35_AirTable.loops = [(5, [1, 2, 3])] := rfl
@[simp] noncomputable def cl_law35_AirTable : List (Nat × (List D → Option D)) := [(15, F_air_Table), (16, F_ref35_Table), (17, F_law35_sameInts), (18, F_law35_awake)]
@[simp] noncomputable def c_law35_AirTable (f : FuncId) (ds : List D) : Option D := callOf cl_law35_AirTable f ds
noncomputable def F_law35_AirTable (ds : List D) : Option D := runF Try.prog c_law35_AirTable an_law35_AirTable 49 (bodyOf Try.f3) [.tmp 0] ds
noncomputable def L_law35_AirTable (i n : Nat) (s : St) : Option (E × St) := atN Try.prog c_law35_AirTable an_law35_AirTable 49 (bodyOf Try.f3) i n s
noncomputable def H_law35_AirTable (n i : Nat) (s : St) : Option (E × St) := atH Try.prog c_law35_AirTable an_law35_AirTable 49 (bodyOf Try.f3) n i s
@[simp] theorem H_law35_AirTable_eq (n i : Nat) (s : St) : H_law35_AirTable n i s = L_law35_AirTable i n (headOf (an_law35_AirTable.loops.lookup i) s) := rfl
noncomputable def R_law35_AirTable (i : Nat) (s : St) : Option (E × St) := stepL Try.prog c_law35_AirTable an_law35_AirTable 49 (bodyOf Try.f3) i s
theorem lok_law35_AirTable : okLoops (bodyOf Try.f3) = true := by kernel_rfl
theorem L_law35_AirTable_zero (i : Nat) (s : St) : L_law35_AirTable i 0 s = none := rfl
theorem L_law35_AirTable_succ (i n : Nat) (s : St) : L_law35_AirTable i (n + 1) s = andThen (R_law35_AirTable i s) (H_law35_AirTable n i) := atN_succ lok_law35_AirTable i n s
theorem R_law35_AirTable_eq (i : Nat) (s : St) : R_law35_AirTable i s = runS Try.prog c_law35_AirTable (H_law35_AirTable bigL) an_law35_AirTable 49 (loopAt (bodyOf Try.f3) i) s := rfl
theorem F_law35_AirTable_eq (ds : List D) : F_law35_AirTable ds = runG Try.prog c_law35_AirTable (H_law35_AirTable bigL) an_law35_AirTable 49 (bodyOf Try.f3) [.tmp 0] ds := runG_eq lok_law35_AirTable _ ds
theorem C_law35_AirTable (ds : List D) (r : D) (h : F_law35_AirTable ds = some r) : Contract Try.prog 3 ds r := contract_of mix Try.func3 rfl (by kernel_rfl) (by kernel_rfl) (callOf_ok cl_law35_AirTable ⟨C_air_Table, C_ref35_Table, C_law35_sameInts, C_law35_awake, trivial⟩) h
-- sawmill/sawmillref35.Check: loops []; state: params 0..0, then [1, 2]
attribute [simp] Try.f20
noncomputable def an_ref35_Check : Ann := ⟨[1, 2], [20], [], [], [], some [2], []⟩
@[simp] theorem an_ref35_Check_draws : an_ref35_Check.draws = [] := rfl
@[simp] theorem an_ref35_Check_exits : an_ref35_Check.exits = [] := rfl
@[simp] theorem an_ref35_Check_rets : an_ref35_Check.rets = some [2] := rfl
@[simp] theorem an_ref35_Check_keep : an_ref35_Check.keep = [1, 2] := rfl
@[simp] theorem an_ref35_Check_cond : an_ref35_Check.cond = [20] := rfl
@[simp] theorem an_ref35_Check_rows : an_ref35_Check.rows = [] := rfl
@[simp] theorem an_ref35_Check_loops : an_ref35_Check.loops = [] := rfl
@[simp] noncomputable def cl_ref35_Check : List (Nat × (List D → Option D)) := []
@[simp] noncomputable def c_ref35_Check (f : FuncId) (ds : List D) : Option D := callOf cl_ref35_Check f ds
noncomputable def F_ref35_Check (ds : List D) : Option D := runF Try.prog c_ref35_Check an_ref35_Check 21 (bodyOf Try.f20) [.tmp 2] ds
noncomputable def L_ref35_Check (i n : Nat) (s : St) : Option (E × St) := atN Try.prog c_ref35_Check an_ref35_Check 21 (bodyOf Try.f20) i n s
noncomputable def H_ref35_Check (n i : Nat) (s : St) : Option (E × St) := atH Try.prog c_ref35_Check an_ref35_Check 21 (bodyOf Try.f20) n i s
@[simp] theorem H_ref35_Check_eq (n i : Nat) (s : St) : H_ref35_Check n i s = L_ref35_Check i n (headOf (an_ref35_Check.loops.lookup i) s) := rfl
noncomputable def R_ref35_Check (i : Nat) (s : St) : Option (E × St) := stepL Try.prog c_ref35_Check an_ref35_Check 21 (bodyOf Try.f20) i s
theorem lok_ref35_Check : okLoops (bodyOf Try.f20) = true := by kernel_rfl
theorem F_ref35_Check_eq (ds : List D) : F_ref35_Check ds = runG Try.prog c_ref35_Check (H_ref35_Check bigL) an_ref35_Check 21 (bodyOf Try.f20) [.tmp 2] ds := runG_eq lok_ref35_Check _ ds
theorem C_ref35_Check (ds : List D) (r : D) (h : F_ref35_Check ds = some r) : Contract Try.prog 20 ds r := contract_of mix Try.func20 rfl (by kernel_rfl) (by kernel_rfl) (callOf_ok cl_ref35_Check trivial) h
-- sawmill/sawmillref08.small: loops []; state: params 0..0, then [2]
attribute [simp] Try.f73
noncomputable def an_ref08_small : Ann := ⟨[2], [], [], [], [], some [2], []⟩
@[simp] theorem an_ref08_small_draws : an_ref08_small.draws = [] := rfl
@[simp] theorem an_ref08_small_exits : an_ref08_small.exits = [] := rfl
@[simp] theorem an_ref08_small_rets : an_ref08_small.rets = some [2] := rfl
@[simp] theorem an_ref08_small_keep : an_ref08_small.keep = [2] := rfl
@[simp] theorem an_ref08_small_cond : an_ref08_small.cond = [] := rfl
@[simp] theorem an_ref08_small_rows : an_ref08_small.rows = [] := rfl
@[simp] theorem an_ref08_small_loops : an_ref08_small.loops = [] := rfl
@[simp] noncomputable def cl_ref08_small : List (Nat × (List D → Option D)) := []
@[simp] noncomputable def c_ref08_small (f : FuncId) (ds : List D) : Option D := callOf cl_ref08_small f ds
noncomputable def F_ref08_small (ds : List D) : Option D := runF Try.prog c_ref08_small an_ref08_small 9 (bodyOf Try.f73) [.tmp 2] ds
noncomputable def L_ref08_small (i n : Nat) (s : St) : Option (E × St) := atN Try.prog c_ref08_small an_ref08_small 9 (bodyOf Try.f73) i n s
noncomputable def H_ref08_small (n i : Nat) (s : St) : Option (E × St) := atH Try.prog c_ref08_small an_ref08_small 9 (bodyOf Try.f73) n i s
@[simp] theorem H_ref08_small_eq (n i : Nat) (s : St) : H_ref08_small n i s = L_ref08_small i n (headOf (an_ref08_small.loops.lookup i) s) := rfl
noncomputable def R_ref08_small (i : Nat) (s : St) : Option (E × St) := stepL Try.prog c_ref08_small an_ref08_small 9 (bodyOf Try.f73) i s
theorem lok_ref08_small : okLoops (bodyOf Try.f73) = true := by kernel_rfl
theorem F_ref08_small_eq (ds : List D) : F_ref08_small ds = runG Try.prog c_ref08_small (H_ref08_small bigL) an_ref08_small 9 (bodyOf Try.f73) [.tmp 2] ds := runG_eq lok_ref08_small _ ds
theorem C_ref08_small (ds : List D) (r : D) (h : F_ref08_small ds = some r) : Contract Try.prog 73 ds r := contract_of mix Try.func73 rfl (by kernel_rfl) (by kernel_rfl) (callOf_ok cl_ref08_small trivial) h
-- sawmill/sawmillref08.numbers: loops [2]; state: params 0..0, then [2, 3]
attribute [simp] Try.f72
noncomputable def an_ref08_numbers : Ann := ⟨[0, 2, 3], [7, 15, 29], [], [(2, [0, 3])], [(0, []), (1, [0, 3])], some [2], [(6, 12)]⟩
@[simp] theorem an_ref08_numbers_draws : an_ref08_numbers.draws = [(6, 12)] := rfl
@[simp] theorem an_ref08_numbers_exits : an_ref08_numbers.exits = [(0, []), (1, [0, 3])] := rfl
@[simp] theorem an_ref08_numbers_rets : an_ref08_numbers.rets = some [2] := rfl
@[simp] theorem an_ref08_numbers_keep : an_ref08_numbers.keep = [0, 2, 3] := rfl
@[simp] theorem an_ref08_numbers_cond : an_ref08_numbers.cond = [7, 15, 29] := rfl
@[simp] theorem an_ref08_numbers_rows : an_ref08_numbers.rows = [] := rfl
@[simp] theorem an_ref08_numbers_loops : an_ref08_numbers.loops = [(2, [0, 3])] := rfl
@[simp] noncomputable def cl_ref08_numbers : List (Nat × (List D → Option D)) := [(73, F_ref08_small)]
@[simp] noncomputable def c_ref08_numbers (f : FuncId) (ds : List D) : Option D := callOf cl_ref08_numbers f ds
noncomputable def F_ref08_numbers (ds : List D) : Option D := runF Try.prog c_ref08_numbers an_ref08_numbers 30 (bodyOf Try.f72) [.tmp 2] ds
noncomputable def L_ref08_numbers (i n : Nat) (s : St) : Option (E × St) := atN Try.prog c_ref08_numbers an_ref08_numbers 30 (bodyOf Try.f72) i n s
noncomputable def H_ref08_numbers (n i : Nat) (s : St) : Option (E × St) := atH Try.prog c_ref08_numbers an_ref08_numbers 30 (bodyOf Try.f72) n i s
@[simp] theorem H_ref08_numbers_eq (n i : Nat) (s : St) : H_ref08_numbers n i s = L_ref08_numbers i n (headOf (an_ref08_numbers.loops.lookup i) s) := rfl
noncomputable def R_ref08_numbers (i : Nat) (s : St) : Option (E × St) := stepL Try.prog c_ref08_numbers an_ref08_numbers 30 (bodyOf Try.f72) i s
theorem lok_ref08_numbers : okLoops (bodyOf Try.f72) = true := by kernel_rfl
theorem L_ref08_numbers_zero (i : Nat) (s : St) : L_ref08_numbers i 0 s = none := rfl
theorem L_ref08_numbers_succ (i n : Nat) (s : St) : L_ref08_numbers i (n + 1) s = andThen (R_ref08_numbers i s) (H_ref08_numbers n i) := atN_succ lok_ref08_numbers i n s
theorem R_ref08_numbers_eq (i : Nat) (s : St) : R_ref08_numbers i s = runS Try.prog c_ref08_numbers (H_ref08_numbers bigL) an_ref08_numbers 30 (loopAt (bodyOf Try.f72) i) s := rfl
theorem F_ref08_numbers_eq (ds : List D) : F_ref08_numbers ds = runG Try.prog c_ref08_numbers (H_ref08_numbers bigL) an_ref08_numbers 30 (bodyOf Try.f72) [.tmp 2] ds := runG_eq lok_ref08_numbers _ ds
theorem C_ref08_numbers (ds : List D) (r : D) (h : F_ref08_numbers ds = some r) : Contract Try.prog 72 ds r := contract_of mix Try.func72 rfl (by kernel_rfl) (by kernel_rfl) (callOf_ok cl_ref08_numbers ⟨C_ref08_small, trivial⟩) h
-- sawmill/sawmillref08.CheckGrid: loops [14, 19]; state: params 0..0, then [1, 2, 3, 4, 5, 6]
attribute [simp] Try.f60
noncomputable def an_ref08_CheckGrid : Ann := ⟨[1, 2, 3, 4, 5, 6], [16, 26, 31, 37, 45, 50, 62, 70, 82], [], [(14, [1, 5]), (19, [1, 5, 6])], [(0, []), (1, [1, 5]), (2, [1, 5]), (3, [1, 5, 6])], some [2], [(16, 9)]⟩
@[simp] theorem an_ref08_CheckGrid_draws : an_ref08_CheckGrid.draws = [(16, 9)] := rfl
@[simp] theorem an_ref08_CheckGrid_exits : an_ref08_CheckGrid.exits = [(0, []), (1, [1, 5]), (2, [1, 5]), (3, [1, 5, 6])] := rfl
@[simp] theorem an_ref08_CheckGrid_rets : an_ref08_CheckGrid.rets = some [2] := rfl
@[simp] theorem an_ref08_CheckGrid_keep : an_ref08_CheckGrid.keep = [1, 2, 3, 4, 5, 6] := rfl
@[simp] theorem an_ref08_CheckGrid_cond : an_ref08_CheckGrid.cond = [16, 26, 31, 37, 45, 50, 62, 70, 82] := rfl
@[simp] theorem an_ref08_CheckGrid_rows : an_ref08_CheckGrid.rows = [] := rfl
@[simp] theorem an_ref08_CheckGrid_loops : an_ref08_CheckGrid.loops = [(14, [1, 5]), (19, [1, 5, 6])] := rfl
@[simp] noncomputable def cl_ref08_CheckGrid : List (Nat × (List D → Option D)) := [(72, F_ref08_numbers), (73, F_ref08_small)]
@[simp] noncomputable def c_ref08_CheckGrid (f : FuncId) (ds : List D) : Option D := callOf cl_ref08_CheckGrid f ds
noncomputable def F_ref08_CheckGrid (ds : List D) : Option D := runF Try.prog c_ref08_CheckGrid an_ref08_CheckGrid 83 (bodyOf Try.f60) [.tmp 2] ds
noncomputable def L_ref08_CheckGrid (i n : Nat) (s : St) : Option (E × St) := atN Try.prog c_ref08_CheckGrid an_ref08_CheckGrid 83 (bodyOf Try.f60) i n s
noncomputable def H_ref08_CheckGrid (n i : Nat) (s : St) : Option (E × St) := atH Try.prog c_ref08_CheckGrid an_ref08_CheckGrid 83 (bodyOf Try.f60) n i s
@[simp] theorem H_ref08_CheckGrid_eq (n i : Nat) (s : St) : H_ref08_CheckGrid n i s = L_ref08_CheckGrid i n (headOf (an_ref08_CheckGrid.loops.lookup i) s) := rfl
noncomputable def R_ref08_CheckGrid (i : Nat) (s : St) : Option (E × St) := stepL Try.prog c_ref08_CheckGrid an_ref08_CheckGrid 83 (bodyOf Try.f60) i s
theorem lok_ref08_CheckGrid : okLoops (bodyOf Try.f60) = true := by kernel_rfl
theorem L_ref08_CheckGrid_zero (i : Nat) (s : St) : L_ref08_CheckGrid i 0 s = none := rfl
theorem L_ref08_CheckGrid_succ (i n : Nat) (s : St) : L_ref08_CheckGrid i (n + 1) s = andThen (R_ref08_CheckGrid i s) (H_ref08_CheckGrid n i) := atN_succ lok_ref08_CheckGrid i n s
theorem R_ref08_CheckGrid_eq (i : Nat) (s : St) : R_ref08_CheckGrid i s = runS Try.prog c_ref08_CheckGrid (H_ref08_CheckGrid bigL) an_ref08_CheckGrid 83 (loopAt (bodyOf Try.f60) i) s := rfl
theorem F_ref08_CheckGrid_eq (ds : List D) : F_ref08_CheckGrid ds = runG Try.prog c_ref08_CheckGrid (H_ref08_CheckGrid bigL) an_ref08_CheckGrid 83 (bodyOf Try.f60) [.tmp 2] ds := runG_eq lok_ref08_CheckGrid _ ds
theorem C_ref08_CheckGrid (ds : List D) (r : D) (h : F_ref08_CheckGrid ds = some r) : Contract Try.prog 60 ds r := contract_of mix Try.func60 rfl (by kernel_rfl) (by kernel_rfl) (callOf_ok cl_ref08_CheckGrid ⟨C_ref08_numbers, C_ref08_small, trivial⟩) h
-- sawmill/sawmillref08.Row: loops [3]; state: params 0..1, then [2, 4, 5, 6]
attribute [simp] Try.f62
noncomputable def an_ref08_Row : Ann := ⟨[2, 4, 5, 6], [11], [5], [(3, [1, 2, 5, 6])], [(0, [5]), (1, [1, 2, 5, 6])], some [4], [(5, 16)]⟩
@[simp] theorem an_ref08_Row_draws : an_ref08_Row.draws = [(5, 16)] := rfl
@[simp] theorem an_ref08_Row_exits : an_ref08_Row.exits = [(0, [5]), (1, [1, 2, 5, 6])] := rfl
@[simp] theorem an_ref08_Row_rets : an_ref08_Row.rets = some [4] := rfl
@[simp] theorem an_ref08_Row_keep : an_ref08_Row.keep = [2, 4, 5, 6] := rfl
@[simp] theorem an_ref08_Row_cond : an_ref08_Row.cond = [11] := rfl
@[simp] theorem an_ref08_Row_rows : an_ref08_Row.rows = [5] := rfl
@[simp] theorem an_ref08_Row_loops : an_ref08_Row.loops = [(3, [1, 2, 5, 6])] := rfl
@[simp] noncomputable def cl_ref08_Row : List (Nat × (List D → Option D)) := []
@[simp] noncomputable def c_ref08_Row (f : FuncId) (ds : List D) : Option D := callOf cl_ref08_Row f ds
noncomputable def F_ref08_Row (ds : List D) : Option D := runF Try.prog c_ref08_Row an_ref08_Row 32 (bodyOf Try.f62) [.tmp 4] ds
noncomputable def L_ref08_Row (i n : Nat) (s : St) : Option (E × St) := atN Try.prog c_ref08_Row an_ref08_Row 32 (bodyOf Try.f62) i n s
noncomputable def H_ref08_Row (n i : Nat) (s : St) : Option (E × St) := atH Try.prog c_ref08_Row an_ref08_Row 32 (bodyOf Try.f62) n i s
@[simp] theorem H_ref08_Row_eq (n i : Nat) (s : St) : H_ref08_Row n i s = L_ref08_Row i n (headOf (an_ref08_Row.loops.lookup i) s) := rfl
noncomputable def R_ref08_Row (i : Nat) (s : St) : Option (E × St) := stepL Try.prog c_ref08_Row an_ref08_Row 32 (bodyOf Try.f62) i s
theorem lok_ref08_Row : okLoops (bodyOf Try.f62) = true := by kernel_rfl
theorem L_ref08_Row_zero (i : Nat) (s : St) : L_ref08_Row i 0 s = none := rfl
theorem L_ref08_Row_succ (i n : Nat) (s : St) : L_ref08_Row i (n + 1) s = andThen (R_ref08_Row i s) (H_ref08_Row n i) := atN_succ lok_ref08_Row i n s
theorem R_ref08_Row_eq (i : Nat) (s : St) : R_ref08_Row i s = runS Try.prog c_ref08_Row (H_ref08_Row bigL) an_ref08_Row 32 (loopAt (bodyOf Try.f62) i) s := rfl
theorem F_ref08_Row_eq (ds : List D) : F_ref08_Row ds = runG Try.prog c_ref08_Row (H_ref08_Row bigL) an_ref08_Row 32 (bodyOf Try.f62) [.tmp 4] ds := runG_eq lok_ref08_Row _ ds
theorem C_ref08_Row (ds : List D) (r : D) (h : F_ref08_Row ds = some r) : Contract Try.prog 62 ds r := contract_of mix Try.func62 rfl (by kernel_rfl) (by kernel_rfl) (callOf_ok cl_ref08_Row trivial) h
-- sawmill/sawmillref08.Check: loops [6]; state: params 0..0, then [2, 3]
attribute [simp] Try.f74
noncomputable def an_ref08_Check : Ann := ⟨[0, 2, 3], [6, 9, 13, 31, 47], [], [(6, [0, 3])], [(0, []), (1, [0, 3])], some [2], [(10, 14)]⟩
@[simp] theorem an_ref08_Check_draws : an_ref08_Check.draws = [(10, 14)] := rfl
@[simp] theorem an_ref08_Check_exits : an_ref08_Check.exits = [(0, []), (1, [0, 3])] := rfl
@[simp] theorem an_ref08_Check_rets : an_ref08_Check.rets = some [2] := rfl
@[simp] theorem an_ref08_Check_keep : an_ref08_Check.keep = [0, 2, 3] := rfl
@[simp] theorem an_ref08_Check_cond : an_ref08_Check.cond = [6, 9, 13, 31, 47] := rfl
@[simp] theorem an_ref08_Check_rows : an_ref08_Check.rows = [] := rfl
@[simp] theorem an_ref08_Check_loops : an_ref08_Check.loops = [(6, [0, 3])] := rfl
@[simp] noncomputable def cl_ref08_Check : List (Nat × (List D → Option D)) := [(73, F_ref08_small)]
@[simp] noncomputable def c_ref08_Check (f : FuncId) (ds : List D) : Option D := callOf cl_ref08_Check f ds
noncomputable def F_ref08_Check (ds : List D) : Option D := runF Try.prog c_ref08_Check an_ref08_Check 48 (bodyOf Try.f74) [.tmp 2] ds
noncomputable def L_ref08_Check (i n : Nat) (s : St) : Option (E × St) := atN Try.prog c_ref08_Check an_ref08_Check 48 (bodyOf Try.f74) i n s
noncomputable def H_ref08_Check (n i : Nat) (s : St) : Option (E × St) := atH Try.prog c_ref08_Check an_ref08_Check 48 (bodyOf Try.f74) n i s
@[simp] theorem H_ref08_Check_eq (n i : Nat) (s : St) : H_ref08_Check n i s = L_ref08_Check i n (headOf (an_ref08_Check.loops.lookup i) s) := rfl
noncomputable def R_ref08_Check (i : Nat) (s : St) : Option (E × St) := stepL Try.prog c_ref08_Check an_ref08_Check 48 (bodyOf Try.f74) i s
theorem lok_ref08_Check : okLoops (bodyOf Try.f74) = true := by kernel_rfl
theorem L_ref08_Check_zero (i : Nat) (s : St) : L_ref08_Check i 0 s = none := rfl
theorem L_ref08_Check_succ (i n : Nat) (s : St) : L_ref08_Check i (n + 1) s = andThen (R_ref08_Check i s) (H_ref08_Check n i) := atN_succ lok_ref08_Check i n s
theorem R_ref08_Check_eq (i : Nat) (s : St) : R_ref08_Check i s = runS Try.prog c_ref08_Check (H_ref08_Check bigL) an_ref08_Check 48 (loopAt (bodyOf Try.f74) i) s := rfl
theorem F_ref08_Check_eq (ds : List D) : F_ref08_Check ds = runG Try.prog c_ref08_Check (H_ref08_Check bigL) an_ref08_Check 48 (bodyOf Try.f74) [.tmp 2] ds := runG_eq lok_ref08_Check _ ds
theorem C_ref08_Check (ds : List D) (r : D) (h : F_ref08_Check ds = some r) : Contract Try.prog 74 ds r := contract_of mix Try.func74 rfl (by kernel_rfl) (by kernel_rfl) (callOf_ok cl_ref08_Check ⟨C_ref08_small, trivial⟩) h
-- sawmill/sawmillref08.floor: loops []; state: params 0..1, then [4, 5]
attribute [simp] Try.f79
noncomputable def an_ref08_floor : Ann := ⟨[0, 1, 4, 5], [13], [], [], [], some [4], []⟩
@[simp] theorem an_ref08_floor_draws : an_ref08_floor.draws = [] := rfl
@[simp] theorem an_ref08_floor_exits : an_ref08_floor.exits = [] := rfl
@[simp] theorem an_ref08_floor_rets : an_ref08_floor.rets = some [4] := rfl
@[simp] theorem an_ref08_floor_keep : an_ref08_floor.keep = [0, 1, 4, 5] := rfl
@[simp] theorem an_ref08_floor_cond : an_ref08_floor.cond = [13] := rfl
@[simp] theorem an_ref08_floor_rows : an_ref08_floor.rows = [] := rfl
@[simp] theorem an_ref08_floor_loops : an_ref08_floor.loops = [] := rfl
@[simp] noncomputable def cl_ref08_floor : List (Nat × (List D → Option D)) := []
@[simp] noncomputable def c_ref08_floor (f : FuncId) (ds : List D) : Option D := callOf cl_ref08_floor f ds
noncomputable def F_ref08_floor (ds : List D) : Option D := runF Try.prog c_ref08_floor an_ref08_floor 17 (bodyOf Try.f79) [.tmp 4] ds
noncomputable def L_ref08_floor (i n : Nat) (s : St) : Option (E × St) := atN Try.prog c_ref08_floor an_ref08_floor 17 (bodyOf Try.f79) i n s
noncomputable def H_ref08_floor (n i : Nat) (s : St) : Option (E × St) := atH Try.prog c_ref08_floor an_ref08_floor 17 (bodyOf Try.f79) n i s
@[simp] theorem H_ref08_floor_eq (n i : Nat) (s : St) : H_ref08_floor n i s = L_ref08_floor i n (headOf (an_ref08_floor.loops.lookup i) s) := rfl
noncomputable def R_ref08_floor (i : Nat) (s : St) : Option (E × St) := stepL Try.prog c_ref08_floor an_ref08_floor 17 (bodyOf Try.f79) i s
theorem lok_ref08_floor : okLoops (bodyOf Try.f79) = true := by kernel_rfl
theorem F_ref08_floor_eq (ds : List D) : F_ref08_floor ds = runG Try.prog c_ref08_floor (H_ref08_floor bigL) an_ref08_floor 17 (bodyOf Try.f79) [.tmp 4] ds := runG_eq lok_ref08_floor _ ds
theorem C_ref08_floor (ds : List D) (r : D) (h : F_ref08_floor ds = some r) : Contract Try.prog 79 ds r := contract_of mix Try.func79 rfl (by kernel_rfl) (by kernel_rfl) (callOf_ok cl_ref08_floor trivial) h
-- sawmill/sawmillref08.Between: loops []; state: params 0..4, then [10]
attribute [simp] Try.f75
noncomputable def an_ref08_Between : Ann := ⟨[10], [], [], [], [], some [10], []⟩
@[simp] theorem an_ref08_Between_draws : an_ref08_Between.draws = [] := rfl
@[simp] theorem an_ref08_Between_exits : an_ref08_Between.exits = [] := rfl
@[simp] theorem an_ref08_Between_rets : an_ref08_Between.rets = some [10] := rfl
@[simp] theorem an_ref08_Between_keep : an_ref08_Between.keep = [10] := rfl
@[simp] theorem an_ref08_Between_cond : an_ref08_Between.cond = [] := rfl
@[simp] theorem an_ref08_Between_rows : an_ref08_Between.rows = [] := rfl
@[simp] theorem an_ref08_Between_loops : an_ref08_Between.loops = [] := rfl
@[simp] noncomputable def cl_ref08_Between : List (Nat × (List D → Option D)) := [(79, F_ref08_floor)]
@[simp] noncomputable def c_ref08_Between (f : FuncId) (ds : List D) : Option D := callOf cl_ref08_Between f ds
noncomputable def F_ref08_Between (ds : List D) : Option D := runF Try.prog c_ref08_Between an_ref08_Between 24 (bodyOf Try.f75) [.tmp 10] ds
noncomputable def L_ref08_Between (i n : Nat) (s : St) : Option (E × St) := atN Try.prog c_ref08_Between an_ref08_Between 24 (bodyOf Try.f75) i n s
noncomputable def H_ref08_Between (n i : Nat) (s : St) : Option (E × St) := atH Try.prog c_ref08_Between an_ref08_Between 24 (bodyOf Try.f75) n i s
@[simp] theorem H_ref08_Between_eq (n i : Nat) (s : St) : H_ref08_Between n i s = L_ref08_Between i n (headOf (an_ref08_Between.loops.lookup i) s) := rfl
noncomputable def R_ref08_Between (i : Nat) (s : St) : Option (E × St) := stepL Try.prog c_ref08_Between an_ref08_Between 24 (bodyOf Try.f75) i s
theorem lok_ref08_Between : okLoops (bodyOf Try.f75) = true := by kernel_rfl
theorem F_ref08_Between_eq (ds : List D) : F_ref08_Between ds = runG Try.prog c_ref08_Between (H_ref08_Between bigL) an_ref08_Between 24 (bodyOf Try.f75) [.tmp 10] ds := runG_eq lok_ref08_Between _ ds
theorem C_ref08_Between (ds : List D) (r : D) (h : F_ref08_Between ds = some r) : Contract Try.prog 75 ds r := contract_of mix Try.func75 rfl (by kernel_rfl) (by kernel_rfl) (callOf_ok cl_ref08_Between ⟨C_ref08_floor, trivial⟩) h
-- sawmill/sawmillref08.At: loops [6]; state: params 0..1, then [4, 5]
attribute [simp] Try.f61
noncomputable def an_ref08_At : Ann := ⟨[0, 1, 4, 5], [8, 14, 22, 31], [], [(6, [0, 1, 5])], [(0, [0]), (1, [0, 1, 5])], some [4], [(9, 23)]⟩
@[simp] theorem an_ref08_At_draws : an_ref08_At.draws = [(9, 23)] := rfl
@[simp] theorem an_ref08_At_exits : an_ref08_At.exits = [(0, [0]), (1, [0, 1, 5])] := rfl
@[simp] theorem an_ref08_At_rets : an_ref08_At.rets = some [4] := rfl
@[simp] theorem an_ref08_At_keep : an_ref08_At.keep = [0, 1, 4, 5] := rfl
@[simp] theorem an_ref08_At_cond : an_ref08_At.cond = [8, 14, 22, 31] := rfl
@[simp] theorem an_ref08_At_rows : an_ref08_At.rows = [] := rfl
@[simp] theorem an_ref08_At_loops : an_ref08_At.loops = [(6, [0, 1, 5])] := rfl
@[simp] noncomputable def cl_ref08_At : List (Nat × (List D → Option D)) := [(74, F_ref08_Check), (75, F_ref08_Between)]
@[simp] noncomputable def c_ref08_At (f : FuncId) (ds : List D) : Option D := callOf cl_ref08_At f ds
noncomputable def F_ref08_At (ds : List D) : Option D := runF Try.prog c_ref08_At an_ref08_At 63 (bodyOf Try.f61) [.tmp 4] ds
noncomputable def L_ref08_At (i n : Nat) (s : St) : Option (E × St) := atN Try.prog c_ref08_At an_ref08_At 63 (bodyOf Try.f61) i n s
noncomputable def H_ref08_At (n i : Nat) (s : St) : Option (E × St) := atH Try.prog c_ref08_At an_ref08_At 63 (bodyOf Try.f61) n i s
@[simp] theorem H_ref08_At_eq (n i : Nat) (s : St) : H_ref08_At n i s = L_ref08_At i n (headOf (an_ref08_At.loops.lookup i) s) := rfl
noncomputable def R_ref08_At (i : Nat) (s : St) : Option (E × St) := stepL Try.prog c_ref08_At an_ref08_At 63 (bodyOf Try.f61) i s
theorem lok_ref08_At : okLoops (bodyOf Try.f61) = true := by kernel_rfl
theorem L_ref08_At_zero (i : Nat) (s : St) : L_ref08_At i 0 s = none := rfl
theorem L_ref08_At_succ (i n : Nat) (s : St) : L_ref08_At i (n + 1) s = andThen (R_ref08_At i s) (H_ref08_At n i) := atN_succ lok_ref08_At i n s
theorem R_ref08_At_eq (i : Nat) (s : St) : R_ref08_At i s = runS Try.prog c_ref08_At (H_ref08_At bigL) an_ref08_At 63 (loopAt (bodyOf Try.f61) i) s := rfl
theorem F_ref08_At_eq (ds : List D) : F_ref08_At ds = runG Try.prog c_ref08_At (H_ref08_At bigL) an_ref08_At 63 (bodyOf Try.f61) [.tmp 4] ds := runG_eq lok_ref08_At _ ds
theorem C_ref08_At (ds : List D) (r : D) (h : F_ref08_At ds = some r) : Contract Try.prog 61 ds r := contract_of mix Try.func61 rfl (by kernel_rfl) (by kernel_rfl) (callOf_ok cl_ref08_At ⟨C_ref08_Check, C_ref08_Between, trivial⟩) h
-- sawmill/sawmillref08.Value: loops [5]; state: params 0..2, then [3, 6, 7, 8]
attribute [simp] Try.f44
noncomputable def an_ref08_Value : Ann := ⟨[3, 6, 7, 8], [11, 16], [7], [(5, [1, 2, 3, 7, 8])], [(0, [1, 7]), (1, [1, 2, 3, 7, 8])], some [6], [(7, 13)]⟩
@[simp] theorem an_ref08_Value_draws : an_ref08_Value.draws = [(7, 13)] := rfl
@[simp] theorem an_ref08_Value_exits : an_ref08_Value.exits = [(0, [1, 7]), (1, [1, 2, 3, 7, 8])] := rfl
@[simp] theorem an_ref08_Value_rets : an_ref08_Value.rets = some [6] := rfl
@[simp] theorem an_ref08_Value_keep : an_ref08_Value.keep = [3, 6, 7, 8] := rfl
@[simp] theorem an_ref08_Value_cond : an_ref08_Value.cond = [11, 16] := rfl
@[simp] theorem an_ref08_Value_rows : an_ref08_Value.rows = [7] := rfl
@[simp] theorem an_ref08_Value_loops : an_ref08_Value.loops = [(5, [1, 2, 3, 7, 8])] := rfl
@[simp] noncomputable def cl_ref08_Value : List (Nat × (List D → Option D)) := [(60, F_ref08_CheckGrid), (61, F_ref08_At), (62, F_ref08_Row)]
@[simp] noncomputable def c_ref08_Value (f : FuncId) (ds : List D) : Option D := callOf cl_ref08_Value f ds
noncomputable def F_ref08_Value (ds : List D) : Option D := runF Try.prog c_ref08_Value an_ref08_Value 36 (bodyOf Try.f44) [.tmp 6] ds
noncomputable def L_ref08_Value (i n : Nat) (s : St) : Option (E × St) := atN Try.prog c_ref08_Value an_ref08_Value 36 (bodyOf Try.f44) i n s
noncomputable def H_ref08_Value (n i : Nat) (s : St) : Option (E × St) := atH Try.prog c_ref08_Value an_ref08_Value 36 (bodyOf Try.f44) n i s
@[simp] theorem H_ref08_Value_eq (n i : Nat) (s : St) : H_ref08_Value n i s = L_ref08_Value i n (headOf (an_ref08_Value.loops.lookup i) s) := rfl
noncomputable def R_ref08_Value (i : Nat) (s : St) : Option (E × St) := stepL Try.prog c_ref08_Value an_ref08_Value 36 (bodyOf Try.f44) i s
theorem lok_ref08_Value : okLoops (bodyOf Try.f44) = true := by kernel_rfl
theorem L_ref08_Value_zero (i : Nat) (s : St) : L_ref08_Value i 0 s = none := rfl
theorem L_ref08_Value_succ (i n : Nat) (s : St) : L_ref08_Value i (n + 1) s = andThen (R_ref08_Value i s) (H_ref08_Value n i) := atN_succ lok_ref08_Value i n s
theorem R_ref08_Value_eq (i : Nat) (s : St) : R_ref08_Value i s = runS Try.prog c_ref08_Value (H_ref08_Value bigL) an_ref08_Value 36 (loopAt (bodyOf Try.f44) i) s := rfl
theorem F_ref08_Value_eq (ds : List D) : F_ref08_Value ds = runG Try.prog c_ref08_Value (H_ref08_Value bigL) an_ref08_Value 36 (bodyOf Try.f44) [.tmp 6] ds := runG_eq lok_ref08_Value _ ds
theorem C_ref08_Value (ds : List D) (r : D) (h : F_ref08_Value ds = some r) : Contract Try.prog 44 ds r := contract_of mix Try.func44 rfl (by kernel_rfl) (by kernel_rfl) (callOf_ok cl_ref08_Value ⟨C_ref08_CheckGrid, C_ref08_At, C_ref08_Row, trivial⟩) h
-- sawmill/sawmillref35.Emc: loops []; state: params 0..0, then [1, 2]
attribute [simp] Try.f22
noncomputable def an_ref35_Emc : Ann := ⟨[1, 2], [], [], [], [], some [2], [(1, 5)]⟩
@[simp] theorem an_ref35_Emc_draws : an_ref35_Emc.draws = [(1, 5)] := rfl
@[simp] theorem an_ref35_Emc_exits : an_ref35_Emc.exits = [] := rfl
@[simp] theorem an_ref35_Emc_rets : an_ref35_Emc.rets = some [2] := rfl
@[simp] theorem an_ref35_Emc_keep : an_ref35_Emc.keep = [1, 2] := rfl
@[simp] theorem an_ref35_Emc_cond : an_ref35_Emc.cond = [] := rfl
@[simp] theorem an_ref35_Emc_rows : an_ref35_Emc.rows = [] := rfl
@[simp] theorem an_ref35_Emc_loops : an_ref35_Emc.loops = [] := rfl
@[simp] noncomputable def cl_ref35_Emc : List (Nat × (List D → Option D)) := [(16, F_ref35_Table), (44, F_ref08_Value)]
@[simp] noncomputable def c_ref35_Emc (f : FuncId) (ds : List D) : Option D := callOf cl_ref35_Emc f ds
noncomputable def F_ref35_Emc (ds : List D) : Option D := runF Try.prog c_ref35_Emc an_ref35_Emc 9 (bodyOf Try.f22) [.tmp 2] ds
noncomputable def L_ref35_Emc (i n : Nat) (s : St) : Option (E × St) := atN Try.prog c_ref35_Emc an_ref35_Emc 9 (bodyOf Try.f22) i n s
noncomputable def H_ref35_Emc (n i : Nat) (s : St) : Option (E × St) := atH Try.prog c_ref35_Emc an_ref35_Emc 9 (bodyOf Try.f22) n i s
@[simp] theorem H_ref35_Emc_eq (n i : Nat) (s : St) : H_ref35_Emc n i s = L_ref35_Emc i n (headOf (an_ref35_Emc.loops.lookup i) s) := rfl
noncomputable def R_ref35_Emc (i : Nat) (s : St) : Option (E × St) := stepL Try.prog c_ref35_Emc an_ref35_Emc 9 (bodyOf Try.f22) i s
theorem lok_ref35_Emc : okLoops (bodyOf Try.f22) = true := by kernel_rfl
theorem F_ref35_Emc_eq (ds : List D) : F_ref35_Emc ds = runG Try.prog c_ref35_Emc (H_ref35_Emc bigL) an_ref35_Emc 9 (bodyOf Try.f22) [.tmp 2] ds := runG_eq lok_ref35_Emc _ ds
theorem C_ref35_Emc (ds : List D) (r : D) (h : F_ref35_Emc ds = some r) : Contract Try.prog 22 ds r := contract_of mix Try.func22 rfl (by kernel_rfl) (by kernel_rfl) (callOf_ok cl_ref35_Emc ⟨C_ref35_Table, C_ref08_Value, trivial⟩) h
-- sawmill/sawmilllaw35.AirEmcs: loops []; state: params 0..0, then [1, 2]
attribute [simp] Try.f4
noncomputable def an_law35_AirEmcs : Ann := ⟨[1, 2], [], [], [], [], some [2], [(1, 9)]⟩
@[simp] theorem an_law35_AirEmcs_draws : an_law35_AirEmcs.draws = [(1, 9)] := rfl
@[simp] theorem an_law35_AirEmcs_exits : an_law35_AirEmcs.exits = [] := rfl
@[simp] theorem an_law35_AirEmcs_rets : an_law35_AirEmcs.rets = some [2] := rfl
@[simp] theorem an_law35_AirEmcs_keep : an_law35_AirEmcs.keep = [1, 2] := rfl
@[simp] theorem an_law35_AirEmcs_cond : an_law35_AirEmcs.cond = [] := rfl
@[simp] theorem an_law35_AirEmcs_rows : an_law35_AirEmcs.rows = [] := rfl
@[simp] theorem an_law35_AirEmcs_loops : an_law35_AirEmcs.loops = [] := rfl
@[simp] noncomputable def cl_law35_AirEmcs : List (Nat × (List D → Option D)) := [(18, F_law35_awake), (19, F_air_Check), (20, F_ref35_Check), (21, F_air_Emc), (22, F_ref35_Emc)]
@[simp] noncomputable def c_law35_AirEmcs (f : FuncId) (ds : List D) : Option D := callOf cl_law35_AirEmcs f ds
noncomputable def F_law35_AirEmcs (ds : List D) : Option D := runF Try.prog c_law35_AirEmcs an_law35_AirEmcs 18 (bodyOf Try.f4) [.tmp 2] ds
noncomputable def L_law35_AirEmcs (i n : Nat) (s : St) : Option (E × St) := atN Try.prog c_law35_AirEmcs an_law35_AirEmcs 18 (bodyOf Try.f4) i n s
noncomputable def H_law35_AirEmcs (n i : Nat) (s : St) : Option (E × St) := atH Try.prog c_law35_AirEmcs an_law35_AirEmcs 18 (bodyOf Try.f4) n i s
@[simp] theorem H_law35_AirEmcs_eq (n i : Nat) (s : St) : H_law35_AirEmcs n i s = L_law35_AirEmcs i n (headOf (an_law35_AirEmcs.loops.lookup i) s) := rfl
noncomputable def R_law35_AirEmcs (i : Nat) (s : St) : Option (E × St) := stepL Try.prog c_law35_AirEmcs an_law35_AirEmcs 18 (bodyOf Try.f4) i s
theorem lok_law35_AirEmcs : okLoops (bodyOf Try.f4) = true := by kernel_rfl
theorem F_law35_AirEmcs_eq (ds : List D) : F_law35_AirEmcs ds = runG Try.prog c_law35_AirEmcs (H_law35_AirEmcs bigL) an_law35_AirEmcs 18 (bodyOf Try.f4) [.tmp 2] ds := runG_eq lok_law35_AirEmcs _ ds
theorem C_law35_AirEmcs (ds : List D) (r : D) (h : F_law35_AirEmcs ds = some r) : Contract Try.prog 4 ds r := contract_of mix Try.func4 rfl (by kernel_rfl) (by kernel_rfl) (callOf_ok cl_law35_AirEmcs ⟨C_law35_awake, C_air_Check, C_ref35_Check, C_air_Emc, C_ref35_Emc, trivial⟩) h
-- sawmill/sawmillref35.Clamped: loops []; state: params 0..0, then [1, 2]
attribute [simp] Try.f48
noncomputable def an_ref35_Clamped : Ann := ⟨[1, 2], [], [], [], [], some [2], []⟩
@[simp] theorem an_ref35_Clamped_draws : an_ref35_Clamped.draws = [] := rfl
@[simp] theorem an_ref35_Clamped_exits : an_ref35_Clamped.exits = [] := rfl
@[simp] theorem an_ref35_Clamped_rets : an_ref35_Clamped.rets = some [2] := rfl
@[simp] theorem an_ref35_Clamped_keep : an_ref35_Clamped.keep = [1, 2] := rfl
@[simp] theorem an_ref35_Clamped_cond : an_ref35_Clamped.cond = [] := rfl
@[simp] theorem an_ref35_Clamped_rows : an_ref35_Clamped.rows = [] := rfl
@[simp] theorem an_ref35_Clamped_loops : an_ref35_Clamped.loops = [] := rfl
@[simp] noncomputable def cl_ref35_Clamped : List (Nat × (List D → Option D)) := []
@[simp] noncomputable def c_ref35_Clamped (f : FuncId) (ds : List D) : Option D := callOf cl_ref35_Clamped f ds
noncomputable def F_ref35_Clamped (ds : List D) : Option D := runF Try.prog c_ref35_Clamped an_ref35_Clamped 12 (bodyOf Try.f48) [.cell 2 30] ds
noncomputable def L_ref35_Clamped (i n : Nat) (s : St) : Option (E × St) := atN Try.prog c_ref35_Clamped an_ref35_Clamped 12 (bodyOf Try.f48) i n s
noncomputable def H_ref35_Clamped (n i : Nat) (s : St) : Option (E × St) := atH Try.prog c_ref35_Clamped an_ref35_Clamped 12 (bodyOf Try.f48) n i s
@[simp] theorem H_ref35_Clamped_eq (n i : Nat) (s : St) : H_ref35_Clamped n i s = L_ref35_Clamped i n (headOf (an_ref35_Clamped.loops.lookup i) s) := rfl
noncomputable def R_ref35_Clamped (i : Nat) (s : St) : Option (E × St) := stepL Try.prog c_ref35_Clamped an_ref35_Clamped 12 (bodyOf Try.f48) i s
theorem lok_ref35_Clamped : okLoops (bodyOf Try.f48) = true := by kernel_rfl
theorem F_ref35_Clamped_eq (ds : List D) : F_ref35_Clamped ds = runG Try.prog c_ref35_Clamped (H_ref35_Clamped bigL) an_ref35_Clamped 12 (bodyOf Try.f48) [.cell 2 30] ds := runG_eq lok_ref35_Clamped _ ds
theorem C_ref35_Clamped (ds : List D) (r : D) (h : F_ref35_Clamped ds = some r) : Contract Try.prog 48 ds r := contract_of mix Try.func48 rfl (by kernel_rfl) (by kernel_rfl) (callOf_ok cl_ref35_Clamped trivial) h
-- sawmill/sawmillref35.has: loops [2]; state: params 0..1, then [4, 5]
attribute [simp] Try.f49
noncomputable def an_ref35_has : Ann := ⟨[0, 4, 5], [9, 17], [], [(2, [0, 1, 5])], [(0, []), (1, [0, 1, 5])], some [4], []⟩
@[simp] theorem an_ref35_has_draws : an_ref35_has.draws = [] := rfl
@[simp] theorem an_ref35_has_exits : an_ref35_has.exits = [(0, []), (1, [0, 1, 5])] := rfl
@[simp] theorem an_ref35_has_rets : an_ref35_has.rets = some [4] := rfl
@[simp] theorem an_ref35_has_keep : an_ref35_has.keep = [0, 4, 5] := rfl
@[simp] theorem an_ref35_has_cond : an_ref35_has.cond = [9, 17] := rfl
@[simp] theorem an_ref35_has_rows : an_ref35_has.rows = [] := rfl
@[simp] theorem an_ref35_has_loops : an_ref35_has.loops = [(2, [0, 1, 5])] := rfl
@[simp] noncomputable def cl_ref35_has : List (Nat × (List D → Option D)) := []
@[simp] noncomputable def c_ref35_has (f : FuncId) (ds : List D) : Option D := callOf cl_ref35_has f ds
noncomputable def F_ref35_has (ds : List D) : Option D := runF Try.prog c_ref35_has an_ref35_has 18 (bodyOf Try.f49) [.tmp 4] ds
noncomputable def L_ref35_has (i n : Nat) (s : St) : Option (E × St) := atN Try.prog c_ref35_has an_ref35_has 18 (bodyOf Try.f49) i n s
noncomputable def H_ref35_has (n i : Nat) (s : St) : Option (E × St) := atH Try.prog c_ref35_has an_ref35_has 18 (bodyOf Try.f49) n i s
@[simp] theorem H_ref35_has_eq (n i : Nat) (s : St) : H_ref35_has n i s = L_ref35_has i n (headOf (an_ref35_has.loops.lookup i) s) := rfl
noncomputable def R_ref35_has (i : Nat) (s : St) : Option (E × St) := stepL Try.prog c_ref35_has an_ref35_has 18 (bodyOf Try.f49) i s
theorem lok_ref35_has : okLoops (bodyOf Try.f49) = true := by kernel_rfl
theorem L_ref35_has_zero (i : Nat) (s : St) : L_ref35_has i 0 s = none := rfl
theorem L_ref35_has_succ (i n : Nat) (s : St) : L_ref35_has i (n + 1) s = andThen (R_ref35_has i s) (H_ref35_has n i) := atN_succ lok_ref35_has i n s
theorem R_ref35_has_eq (i : Nat) (s : St) : R_ref35_has i s = runS Try.prog c_ref35_has (H_ref35_has bigL) an_ref35_has 18 (loopAt (bodyOf Try.f49) i) s := rfl
theorem F_ref35_has_eq (ds : List D) : F_ref35_has ds = runG Try.prog c_ref35_has (H_ref35_has bigL) an_ref35_has 18 (bodyOf Try.f49) [.tmp 4] ds := runG_eq lok_ref35_has _ ds
theorem C_ref35_has (ds : List D) (r : D) (h : F_ref35_has ds = some r) : Contract Try.prog 49 ds r := contract_of mix Try.func49 rfl (by kernel_rfl) (by kernel_rfl) (callOf_ok cl_ref35_has trivial) h
-- sawmill/sawmillref35.Outside: loops []; state: params 0..-1, then [0]
attribute [simp] Try.f50
noncomputable def an_ref35_Outside : Ann := ⟨[0], [], [], [], [], some [0], []⟩
@[simp] theorem an_ref35_Outside_draws : an_ref35_Outside.draws = [] := rfl
@[simp] theorem an_ref35_Outside_exits : an_ref35_Outside.exits = [] := rfl
@[simp] theorem an_ref35_Outside_rets : an_ref35_Outside.rets = some [0] := rfl
@[simp] theorem an_ref35_Outside_keep : an_ref35_Outside.keep = [0] := rfl
@[simp] theorem an_ref35_Outside_cond : an_ref35_Outside.cond = [] := rfl
@[simp] theorem an_ref35_Outside_rows : an_ref35_Outside.rows = [] := rfl
@[simp] theorem an_ref35_Outside_loops : an_ref35_Outside.loops = [] := rfl
@[simp] noncomputable def cl_ref35_Outside : List (Nat × (List D → Option D)) := []
@[simp] noncomputable def c_ref35_Outside (f : FuncId) (ds : List D) : Option D := callOf cl_ref35_Outside f ds
noncomputable def F_ref35_Outside (ds : List D) : Option D := runF Try.prog c_ref35_Outside an_ref35_Outside 2 (bodyOf Try.f50) [.cell 0 30] ds
noncomputable def L_ref35_Outside (i n : Nat) (s : St) : Option (E × St) := atN Try.prog c_ref35_Outside an_ref35_Outside 2 (bodyOf Try.f50) i n s
noncomputable def H_ref35_Outside (n i : Nat) (s : St) : Option (E × St) := atH Try.prog c_ref35_Outside an_ref35_Outside 2 (bodyOf Try.f50) n i s
@[simp] theorem H_ref35_Outside_eq (n i : Nat) (s : St) : H_ref35_Outside n i s = L_ref35_Outside i n (headOf (an_ref35_Outside.loops.lookup i) s) := rfl
noncomputable def R_ref35_Outside (i : Nat) (s : St) : Option (E × St) := stepL Try.prog c_ref35_Outside an_ref35_Outside 2 (bodyOf Try.f50) i s
theorem lok_ref35_Outside : okLoops (bodyOf Try.f50) = true := by kernel_rfl
theorem F_ref35_Outside_eq (ds : List D) : F_ref35_Outside ds = runG Try.prog c_ref35_Outside (H_ref35_Outside bigL) an_ref35_Outside 2 (bodyOf Try.f50) [.cell 0 30] ds := runG_eq lok_ref35_Outside _ ds
theorem C_ref35_Outside (ds : List D) (r : D) (h : F_ref35_Outside ds = some r) : Contract Try.prog 50 ds r := contract_of mix Try.func50 rfl (by kernel_rfl) (by kernel_rfl) (callOf_ok cl_ref35_Outside trivial) h
-- sawmill/sawmillref35.toward: loops []; state: params 0..2, then [6]
attribute [simp] Try.f51
noncomputable def an_ref35_toward : Ann := ⟨[6], [], [], [], [], some [6], []⟩
@[simp] theorem an_ref35_toward_draws : an_ref35_toward.draws = [] := rfl
@[simp] theorem an_ref35_toward_exits : an_ref35_toward.exits = [] := rfl
@[simp] theorem an_ref35_toward_rets : an_ref35_toward.rets = some [6] := rfl
@[simp] theorem an_ref35_toward_keep : an_ref35_toward.keep = [6] := rfl
@[simp] theorem an_ref35_toward_cond : an_ref35_toward.cond = [] := rfl
@[simp] theorem an_ref35_toward_rows : an_ref35_toward.rows = [] := rfl
@[simp] theorem an_ref35_toward_loops : an_ref35_toward.loops = [] := rfl
@[simp] noncomputable def cl_ref35_toward : List (Nat × (List D → Option D)) := []
@[simp] noncomputable def c_ref35_toward (f : FuncId) (ds : List D) : Option D := callOf cl_ref35_toward f ds
noncomputable def F_ref35_toward (ds : List D) : Option D := runF Try.prog c_ref35_toward an_ref35_toward 16 (bodyOf Try.f51) [.tmp 6] ds
noncomputable def L_ref35_toward (i n : Nat) (s : St) : Option (E × St) := atN Try.prog c_ref35_toward an_ref35_toward 16 (bodyOf Try.f51) i n s
noncomputable def H_ref35_toward (n i : Nat) (s : St) : Option (E × St) := atH Try.prog c_ref35_toward an_ref35_toward 16 (bodyOf Try.f51) n i s
@[simp] theorem H_ref35_toward_eq (n i : Nat) (s : St) : H_ref35_toward n i s = L_ref35_toward i n (headOf (an_ref35_toward.loops.lookup i) s) := rfl
noncomputable def R_ref35_toward (i : Nat) (s : St) : Option (E × St) := stepL Try.prog c_ref35_toward an_ref35_toward 16 (bodyOf Try.f51) i s
theorem lok_ref35_toward : okLoops (bodyOf Try.f51) = true := by kernel_rfl
theorem F_ref35_toward_eq (ds : List D) : F_ref35_toward ds = runG Try.prog c_ref35_toward (H_ref35_toward bigL) an_ref35_toward 16 (bodyOf Try.f51) [.tmp 6] ds := runG_eq lok_ref35_toward _ ds
theorem C_ref35_toward (ds : List D) (r : D) (h : F_ref35_toward ds = some r) : Contract Try.prog 51 ds r := contract_of mix Try.func51 rfl (by kernel_rfl) (by kernel_rfl) (callOf_ok cl_ref35_toward trivial) h
-- sawmill/sawmillref35.Next: loops []; state: params 0..3, then [4, 5, 8, 9]
attribute [simp] Try.f24
noncomputable def an_ref35_Next : Ann := ⟨[3, 4, 5, 8, 9], [18, 23], [], [], [], some [8], [(1, 3), (7, 11)]⟩
@[simp] theorem an_ref35_Next_draws : an_ref35_Next.draws = [(1, 3), (7, 11)] := rfl
@[simp] theorem an_ref35_Next_exits : an_ref35_Next.exits = [] := rfl
@[simp] theorem an_ref35_Next_rets : an_ref35_Next.rets = some [8] := rfl
@[simp] theorem an_ref35_Next_keep : an_ref35_Next.keep = [3, 4, 5, 8, 9] := rfl
@[simp] theorem an_ref35_Next_cond : an_ref35_Next.cond = [18, 23] := rfl
@[simp] theorem an_ref35_Next_rows : an_ref35_Next.rows = [] := rfl
@[simp] theorem an_ref35_Next_loops : an_ref35_Next.loops = [] := rfl
@[simp] noncomputable def cl_ref35_Next : List (Nat × (List D → Option D)) := [(48, F_ref35_Clamped), (49, F_ref35_has), (50, F_ref35_Outside), (51, F_ref35_toward)]
@[simp] noncomputable def c_ref35_Next (f : FuncId) (ds : List D) : Option D := callOf cl_ref35_Next f ds
noncomputable def F_ref35_Next (ds : List D) : Option D := runF Try.prog c_ref35_Next an_ref35_Next 40 (bodyOf Try.f24) [.cell 8 30] ds
noncomputable def L_ref35_Next (i n : Nat) (s : St) : Option (E × St) := atN Try.prog c_ref35_Next an_ref35_Next 40 (bodyOf Try.f24) i n s
noncomputable def H_ref35_Next (n i : Nat) (s : St) : Option (E × St) := atH Try.prog c_ref35_Next an_ref35_Next 40 (bodyOf Try.f24) n i s
@[simp] theorem H_ref35_Next_eq (n i : Nat) (s : St) : H_ref35_Next n i s = L_ref35_Next i n (headOf (an_ref35_Next.loops.lookup i) s) := rfl
noncomputable def R_ref35_Next (i : Nat) (s : St) : Option (E × St) := stepL Try.prog c_ref35_Next an_ref35_Next 40 (bodyOf Try.f24) i s
theorem lok_ref35_Next : okLoops (bodyOf Try.f24) = true := by kernel_rfl
theorem F_ref35_Next_eq (ds : List D) : F_ref35_Next ds = runG Try.prog c_ref35_Next (H_ref35_Next bigL) an_ref35_Next 40 (bodyOf Try.f24) [.cell 8 30] ds := runG_eq lok_ref35_Next _ ds
theorem C_ref35_Next (ds : List D) (r : D) (h : F_ref35_Next ds = some r) : Contract Try.prog 24 ds r := contract_of mix Try.func24 rfl (by kernel_rfl) (by kernel_rfl) (callOf_ok cl_ref35_Next ⟨C_ref35_Clamped, C_ref35_has, C_ref35_Outside, C_ref35_toward, trivial⟩) h
-- sawmill/sawmilllaw35.AirNexts: loops []; state: params 0..0, then [1, 2]
attribute [simp] Try.f5
noncomputable def an_law35_AirNexts : Ann := ⟨[1, 2], [6], [], [], [], some [2], [(3, 17)]⟩
@[simp] theorem an_law35_AirNexts_draws : an_law35_AirNexts.draws = [(3, 17)] := rfl
@[simp] theorem an_law35_AirNexts_exits : an_law35_AirNexts.exits = [] := rfl
@[simp] theorem an_law35_AirNexts_rets : an_law35_AirNexts.rets = some [2] := rfl
@[simp] theorem an_law35_AirNexts_keep : an_law35_AirNexts.keep = [1, 2] := rfl
@[simp] theorem an_law35_AirNexts_cond : an_law35_AirNexts.cond = [6] := rfl
@[simp] theorem an_law35_AirNexts_rows : an_law35_AirNexts.rows = [] := rfl
@[simp] theorem an_law35_AirNexts_loops : an_law35_AirNexts.loops = [] := rfl
@[simp] noncomputable def cl_law35_AirNexts : List (Nat × (List D → Option D)) := [(18, F_law35_awake), (23, F_air_Next), (24, F_ref35_Next)]
@[simp] noncomputable def c_law35_AirNexts (f : FuncId) (ds : List D) : Option D := callOf cl_law35_AirNexts f ds
noncomputable def F_law35_AirNexts (ds : List D) : Option D := runF Try.prog c_law35_AirNexts an_law35_AirNexts 30 (bodyOf Try.f5) [.tmp 2] ds
noncomputable def L_law35_AirNexts (i n : Nat) (s : St) : Option (E × St) := atN Try.prog c_law35_AirNexts an_law35_AirNexts 30 (bodyOf Try.f5) i n s
noncomputable def H_law35_AirNexts (n i : Nat) (s : St) : Option (E × St) := atH Try.prog c_law35_AirNexts an_law35_AirNexts 30 (bodyOf Try.f5) n i s
@[simp] theorem H_law35_AirNexts_eq (n i : Nat) (s : St) : H_law35_AirNexts n i s = L_law35_AirNexts i n (headOf (an_law35_AirNexts.loops.lookup i) s) := rfl
noncomputable def R_law35_AirNexts (i : Nat) (s : St) : Option (E × St) := stepL Try.prog c_law35_AirNexts an_law35_AirNexts 30 (bodyOf Try.f5) i s
theorem lok_law35_AirNexts : okLoops (bodyOf Try.f5) = true := by kernel_rfl
theorem F_law35_AirNexts_eq (ds : List D) : F_law35_AirNexts ds = runG Try.prog c_law35_AirNexts (H_law35_AirNexts bigL) an_law35_AirNexts 30 (bodyOf Try.f5) [.tmp 2] ds := runG_eq lok_law35_AirNexts _ ds
theorem C_law35_AirNexts (ds : List D) (r : D) (h : F_law35_AirNexts ds = some r) : Contract Try.prog 5 ds r := contract_of mix Try.func5 rfl (by kernel_rfl) (by kernel_rfl) (callOf_ok cl_law35_AirNexts ⟨C_law35_awake, C_air_Next, C_ref35_Next, trivial⟩) h
-- sawmill/sawmilllaw35.AirFalls: loops []; state: params 0..1, then [2, 3, 4, 5, 6, 7, 8]
attribute [simp] Try.f6
noncomputable def an_law35_AirFalls : Ann := ⟨[2, 3, 4, 5, 6, 7, 8], [], [], [], [], some [4], [(3, 3)]⟩
@[simp] theorem an_law35_AirFalls_draws : an_law35_AirFalls.draws = [(3, 3)] := rfl
@[simp] theorem an_law35_AirFalls_exits : an_law35_AirFalls.exits = [] := rfl
@[simp] theorem an_law35_AirFalls_rets : an_law35_AirFalls.rets = some [4] := rfl
@[simp] theorem an_law35_AirFalls_keep : an_law35_AirFalls.keep = [2, 3, 4, 5, 6, 7, 8] := rfl
@[simp] theorem an_law35_AirFalls_cond : an_law35_AirFalls.cond = [] := rfl
@[simp] theorem an_law35_AirFalls_rows : an_law35_AirFalls.rows = [] := rfl
@[simp] theorem an_law35_AirFalls_loops : an_law35_AirFalls.loops = [] := rfl
@[simp] noncomputable def cl_law35_AirFalls : List (Nat × (List D → Option D)) := [(18, F_law35_awake), (21, F_air_Emc), (25, F_law35_at)]
@[simp] noncomputable def c_law35_AirFalls (f : FuncId) (ds : List D) : Option D := callOf cl_law35_AirFalls f ds
noncomputable def F_law35_AirFalls (ds : List D) : Option D := runF Try.prog c_law35_AirFalls an_law35_AirFalls 69 (bodyOf Try.f6) [.tmp 4] ds
noncomputable def L_law35_AirFalls (i n : Nat) (s : St) : Option (E × St) := atN Try.prog c_law35_AirFalls an_law35_AirFalls 69 (bodyOf Try.f6) i n s
noncomputable def H_law35_AirFalls (n i : Nat) (s : St) : Option (E × St) := atH Try.prog c_law35_AirFalls an_law35_AirFalls 69 (bodyOf Try.f6) n i s
@[simp] theorem H_law35_AirFalls_eq (n i : Nat) (s : St) : H_law35_AirFalls n i s = L_law35_AirFalls i n (headOf (an_law35_AirFalls.loops.lookup i) s) := rfl
noncomputable def R_law35_AirFalls (i : Nat) (s : St) : Option (E × St) := stepL Try.prog c_law35_AirFalls an_law35_AirFalls 69 (bodyOf Try.f6) i s
theorem lok_law35_AirFalls : okLoops (bodyOf Try.f6) = true := by kernel_rfl
theorem F_law35_AirFalls_eq (ds : List D) : F_law35_AirFalls ds = runG Try.prog c_law35_AirFalls (H_law35_AirFalls bigL) an_law35_AirFalls 69 (bodyOf Try.f6) [.tmp 4] ds := runG_eq lok_law35_AirFalls _ ds
theorem C_law35_AirFalls (ds : List D) (r : D) (h : F_law35_AirFalls ds = some r) : Contract Try.prog 6 ds r := contract_of mix Try.func6 rfl (by kernel_rfl) (by kernel_rfl) (callOf_ok cl_law35_AirFalls ⟨C_law35_awake, C_air_Emc, C_law35_at, trivial⟩) h
-- sawmill/sawmilllaw35.between: loops []; state: params 0..3, then [8]
attribute [simp] Try.f27
noncomputable def an_law35_between : Ann := ⟨[8], [], [], [], [], some [8], []⟩
@[simp] theorem an_law35_between_draws : an_law35_between.draws = [] := rfl
@[simp] theorem an_law35_between_exits : an_law35_between.exits = [] := rfl
@[simp] theorem an_law35_between_rets : an_law35_between.rets = some [8] := rfl
@[simp] theorem an_law35_between_keep : an_law35_between.keep = [8] := rfl
@[simp] theorem an_law35_between_cond : an_law35_between.cond = [] := rfl
@[simp] theorem an_law35_between_rows : an_law35_between.rows = [] := rfl
@[simp] theorem an_law35_between_loops : an_law35_between.loops = [] := rfl
@[simp] noncomputable def cl_law35_between : List (Nat × (List D → Option D)) := []
@[simp] noncomputable def c_law35_between (f : FuncId) (ds : List D) : Option D := callOf cl_law35_between f ds
noncomputable def F_law35_between (ds : List D) : Option D := runF Try.prog c_law35_between an_law35_between 35 (bodyOf Try.f27) [.tmp 8] ds
noncomputable def L_law35_between (i n : Nat) (s : St) : Option (E × St) := atN Try.prog c_law35_between an_law35_between 35 (bodyOf Try.f27) i n s
noncomputable def H_law35_between (n i : Nat) (s : St) : Option (E × St) := atH Try.prog c_law35_between an_law35_between 35 (bodyOf Try.f27) n i s
@[simp] theorem H_law35_between_eq (n i : Nat) (s : St) : H_law35_between n i s = L_law35_between i n (headOf (an_law35_between.loops.lookup i) s) := rfl
noncomputable def R_law35_between (i : Nat) (s : St) : Option (E × St) := stepL Try.prog c_law35_between an_law35_between 35 (bodyOf Try.f27) i s
theorem lok_law35_between : okLoops (bodyOf Try.f27) = true := by kernel_rfl
theorem F_law35_between_eq (ds : List D) : F_law35_between ds = runG Try.prog c_law35_between (H_law35_between bigL) an_law35_between 35 (bodyOf Try.f27) [.tmp 8] ds := runG_eq lok_law35_between _ ds
theorem C_law35_between (ds : List D) (r : D) (h : F_law35_between ds = some r) : Contract Try.prog 27 ds r := contract_of mix Try.func27 rfl (by kernel_rfl) (by kernel_rfl) (callOf_ok cl_law35_between trivial) h
-- sawmill/sawmilllaw35.AirGoes: loops [6]; state: params 0..0, then [1, 2, 3, 4, 5, 6]
attribute [simp] Try.f7
noncomputable def an_law35_AirGoes : Ann := ⟨[1, 2, 3, 4, 5, 6], [32, 41, 49, 58, 98], [4], [(6, [1, 3, 4, 5])], [(0, [1, 3, 4]), (1, [1, 3, 4, 5])], some [2], [(12, 12), (14, 9)]⟩
@[simp] theorem an_law35_AirGoes_draws : an_law35_AirGoes.draws = [(12, 12), (14, 9)] := rfl
@[simp] theorem an_law35_AirGoes_exits : an_law35_AirGoes.exits = [(0, [1, 3, 4]), (1, [1, 3, 4, 5])] := rfl
@[simp] theorem an_law35_AirGoes_rets : an_law35_AirGoes.rets = some [2] := rfl
@[simp] theorem an_law35_AirGoes_keep : an_law35_AirGoes.keep = [1, 2, 3, 4, 5, 6] := rfl
@[simp] theorem an_law35_AirGoes_cond : an_law35_AirGoes.cond = [32, 41, 49, 58, 98] := rfl
@[simp] theorem an_law35_AirGoes_rows : an_law35_AirGoes.rows = [4] := rfl
@[simp] theorem an_law35_AirGoes_loops : an_law35_AirGoes.loops = [(6, [1, 3, 4, 5])] := rfl
@[simp] noncomputable def cl_law35_AirGoes : List (Nat × (List D → Option D)) := [(18, F_law35_awake), (19, F_air_Check), (20, F_ref35_Check), (23, F_air_Next), (26, F_air_Outside), (27, F_law35_between)]
@[simp] noncomputable def c_law35_AirGoes (f : FuncId) (ds : List D) : Option D := callOf cl_law35_AirGoes f ds
noncomputable def F_law35_AirGoes (ds : List D) : Option D := runF Try.prog c_law35_AirGoes an_law35_AirGoes 124 (bodyOf Try.f7) [.tmp 2] ds
noncomputable def L_law35_AirGoes (i n : Nat) (s : St) : Option (E × St) := atN Try.prog c_law35_AirGoes an_law35_AirGoes 124 (bodyOf Try.f7) i n s
noncomputable def H_law35_AirGoes (n i : Nat) (s : St) : Option (E × St) := atH Try.prog c_law35_AirGoes an_law35_AirGoes 124 (bodyOf Try.f7) n i s
@[simp] theorem H_law35_AirGoes_eq (n i : Nat) (s : St) : H_law35_AirGoes n i s = L_law35_AirGoes i n (headOf (an_law35_AirGoes.loops.lookup i) s) := rfl
noncomputable def R_law35_AirGoes (i : Nat) (s : St) : Option (E × St) := stepL Try.prog c_law35_AirGoes an_law35_AirGoes 124 (bodyOf Try.f7) i s
theorem lok_law35_AirGoes : okLoops (bodyOf Try.f7) = true := by kernel_rfl
theorem L_law35_AirGoes_zero (i : Nat) (s : St) : L_law35_AirGoes i 0 s = none := rfl
theorem L_law35_AirGoes_succ (i n : Nat) (s : St) : L_law35_AirGoes i (n + 1) s = andThen (R_law35_AirGoes i s) (H_law35_AirGoes n i) := atN_succ lok_law35_AirGoes i n s
theorem R_law35_AirGoes_eq (i : Nat) (s : St) : R_law35_AirGoes i s = runS Try.prog c_law35_AirGoes (H_law35_AirGoes bigL) an_law35_AirGoes 124 (loopAt (bodyOf Try.f7) i) s := rfl
theorem F_law35_AirGoes_eq (ds : List D) : F_law35_AirGoes ds = runG Try.prog c_law35_AirGoes (H_law35_AirGoes bigL) an_law35_AirGoes 124 (bodyOf Try.f7) [.tmp 2] ds := runG_eq lok_law35_AirGoes _ ds
theorem C_law35_AirGoes (ds : List D) (r : D) (h : F_law35_AirGoes ds = some r) : Contract Try.prog 7 ds r := contract_of mix Try.func7 rfl (by kernel_rfl) (by kernel_rfl) (callOf_ok cl_law35_AirGoes ⟨C_law35_awake, C_air_Check, C_ref35_Check, C_air_Next, C_air_Outside, C_law35_between, trivial⟩) h
-- sawmill/sawmilllaw35.AirReaches: loops [7]; state: params 0..2, then [3, 4, 6, 7, 8, 9, 10]
attribute [simp] Try.f8
noncomputable def an_law35_AirReaches : Ann := ⟨[2, 3, 4, 6, 7, 8, 9, 10], [26, 58, 63], [], [(7, [2, 4, 8, 9, 10])], [(0, [2, 4, 9]), (1, [2, 4, 8, 9, 10])], some [6], [(12, 9)]⟩
@[simp] theorem an_law35_AirReaches_draws : an_law35_AirReaches.draws = [(12, 9)] := rfl
@[simp] theorem an_law35_AirReaches_exits : an_law35_AirReaches.exits = [(0, [2, 4, 9]), (1, [2, 4, 8, 9, 10])] := rfl
@[simp] theorem an_law35_AirReaches_rets : an_law35_AirReaches.rets = some [6] := rfl
@[simp] theorem an_law35_AirReaches_keep : an_law35_AirReaches.keep = [2, 3, 4, 6, 7, 8, 9, 10] := rfl
@[simp] theorem an_law35_AirReaches_cond : an_law35_AirReaches.cond = [26, 58, 63] := rfl
@[simp] theorem an_law35_AirReaches_rows : an_law35_AirReaches.rows = [] := rfl
@[simp] theorem an_law35_AirReaches_loops : an_law35_AirReaches.loops = [(7, [2, 4, 8, 9, 10])] := rfl
@[simp] noncomputable def cl_law35_AirReaches : List (Nat × (List D → Option D)) := [(18, F_law35_awake), (20, F_ref35_Check), (23, F_air_Next)]
@[simp] noncomputable def c_law35_AirReaches (f : FuncId) (ds : List D) : Option D := callOf cl_law35_AirReaches f ds
noncomputable def F_law35_AirReaches (ds : List D) : Option D := runF Try.prog c_law35_AirReaches an_law35_AirReaches 82 (bodyOf Try.f8) [.tmp 6] ds
noncomputable def L_law35_AirReaches (i n : Nat) (s : St) : Option (E × St) := atN Try.prog c_law35_AirReaches an_law35_AirReaches 82 (bodyOf Try.f8) i n s
noncomputable def H_law35_AirReaches (n i : Nat) (s : St) : Option (E × St) := atH Try.prog c_law35_AirReaches an_law35_AirReaches 82 (bodyOf Try.f8) n i s
@[simp] theorem H_law35_AirReaches_eq (n i : Nat) (s : St) : H_law35_AirReaches n i s = L_law35_AirReaches i n (headOf (an_law35_AirReaches.loops.lookup i) s) := rfl
noncomputable def R_law35_AirReaches (i : Nat) (s : St) : Option (E × St) := stepL Try.prog c_law35_AirReaches an_law35_AirReaches 82 (bodyOf Try.f8) i s
theorem lok_law35_AirReaches : okLoops (bodyOf Try.f8) = true := by kernel_rfl
theorem L_law35_AirReaches_zero (i : Nat) (s : St) : L_law35_AirReaches i 0 s = none := rfl
theorem L_law35_AirReaches_succ (i n : Nat) (s : St) : L_law35_AirReaches i (n + 1) s = andThen (R_law35_AirReaches i s) (H_law35_AirReaches n i) := atN_succ lok_law35_AirReaches i n s
theorem R_law35_AirReaches_eq (i : Nat) (s : St) : R_law35_AirReaches i s = runS Try.prog c_law35_AirReaches (H_law35_AirReaches bigL) an_law35_AirReaches 82 (loopAt (bodyOf Try.f8) i) s := rfl
theorem F_law35_AirReaches_eq (ds : List D) : F_law35_AirReaches ds = runG Try.prog c_law35_AirReaches (H_law35_AirReaches bigL) an_law35_AirReaches 82 (bodyOf Try.f8) [.tmp 6] ds := runG_eq lok_law35_AirReaches _ ds
theorem C_law35_AirReaches (ds : List D) (r : D) (h : F_law35_AirReaches ds = some r) : Contract Try.prog 8 ds r := contract_of mix Try.func8 rfl (by kernel_rfl) (by kernel_rfl) (callOf_ok cl_law35_AirReaches ⟨C_law35_awake, C_ref35_Check, C_air_Next, trivial⟩) h
-- sawmill/moist.Check: loops []; state: params 0..0, then [1, 2]
attribute [simp] Try.f31
noncomputable def an_moist_Check : Ann := ⟨[1, 2], [20, 28], [], [], [], some [2], []⟩
@[simp] theorem an_moist_Check_draws : an_moist_Check.draws = [] := rfl
@[simp] theorem an_moist_Check_exits : an_moist_Check.exits = [] := rfl
@[simp] theorem an_moist_Check_rets : an_moist_Check.rets = some [2] := rfl
@[simp] theorem an_moist_Check_keep : an_moist_Check.keep = [1, 2] := rfl
@[simp] theorem an_moist_Check_cond : an_moist_Check.cond = [20, 28] := rfl
@[simp] theorem an_moist_Check_rows : an_moist_Check.rows = [] := rfl
@[simp] theorem an_moist_Check_loops : an_moist_Check.loops = [] := rfl
@[simp] noncomputable def cl_moist_Check : List (Nat × (List D → Option D)) := []
@[simp] noncomputable def c_moist_Check (f : FuncId) (ds : List D) : Option D := callOf cl_moist_Check f ds
noncomputable def F_moist_Check (ds : List D) : Option D := runF Try.prog c_moist_Check an_moist_Check 29 (bodyOf Try.f31) [.tmp 2] ds
noncomputable def L_moist_Check (i n : Nat) (s : St) : Option (E × St) := atN Try.prog c_moist_Check an_moist_Check 29 (bodyOf Try.f31) i n s
noncomputable def H_moist_Check (n i : Nat) (s : St) : Option (E × St) := atH Try.prog c_moist_Check an_moist_Check 29 (bodyOf Try.f31) n i s
@[simp] theorem H_moist_Check_eq (n i : Nat) (s : St) : H_moist_Check n i s = L_moist_Check i n (headOf (an_moist_Check.loops.lookup i) s) := rfl
noncomputable def R_moist_Check (i : Nat) (s : St) : Option (E × St) := stepL Try.prog c_moist_Check an_moist_Check 29 (bodyOf Try.f31) i s
theorem lok_moist_Check : okLoops (bodyOf Try.f31) = true := by kernel_rfl
theorem F_moist_Check_eq (ds : List D) : F_moist_Check ds = runG Try.prog c_moist_Check (H_moist_Check bigL) an_moist_Check 29 (bodyOf Try.f31) [.tmp 2] ds := runG_eq lok_moist_Check _ ds
theorem C_moist_Check (ds : List D) (r : D) (h : F_moist_Check ds = some r) : Contract Try.prog 31 ds r := contract_of mix Try.func31 rfl (by kernel_rfl) (by kernel_rfl) (callOf_ok cl_moist_Check trivial) h
-- sawmill/moist.computable: loops []; state: params 0..3, then [4, 5, 7, 8]
attribute [simp] Try.f64
noncomputable def an_moist_computable : Ann := ⟨[4, 5, 7, 8], [], [], [], [], some [8], []⟩
@[simp] theorem an_moist_computable_draws : an_moist_computable.draws = [] := rfl
@[simp] theorem an_moist_computable_exits : an_moist_computable.exits = [] := rfl
@[simp] theorem an_moist_computable_rets : an_moist_computable.rets = some [8] := rfl
@[simp] theorem an_moist_computable_keep : an_moist_computable.keep = [4, 5, 7, 8] := rfl
@[simp] theorem an_moist_computable_cond : an_moist_computable.cond = [] := rfl
@[simp] theorem an_moist_computable_rows : an_moist_computable.rows = [] := rfl
@[simp] theorem an_moist_computable_loops : an_moist_computable.loops = [] := rfl
@[simp] noncomputable def cl_moist_computable : List (Nat × (List D → Option D)) := [(19, F_air_Check), (31, F_moist_Check)]
@[simp] noncomputable def c_moist_computable (f : FuncId) (ds : List D) : Option D := callOf cl_moist_computable f ds
noncomputable def F_moist_computable (ds : List D) : Option D := runF Try.prog c_moist_computable an_moist_computable 55 (bodyOf Try.f64) [.tmp 8] ds
noncomputable def L_moist_computable (i n : Nat) (s : St) : Option (E × St) := atN Try.prog c_moist_computable an_moist_computable 55 (bodyOf Try.f64) i n s
noncomputable def H_moist_computable (n i : Nat) (s : St) : Option (E × St) := atH Try.prog c_moist_computable an_moist_computable 55 (bodyOf Try.f64) n i s
@[simp] theorem H_moist_computable_eq (n i : Nat) (s : St) : H_moist_computable n i s = L_moist_computable i n (headOf (an_moist_computable.loops.lookup i) s) := rfl
noncomputable def R_moist_computable (i : Nat) (s : St) : Option (E × St) := stepL Try.prog c_moist_computable an_moist_computable 55 (bodyOf Try.f64) i s
theorem lok_moist_computable : okLoops (bodyOf Try.f64) = true := by kernel_rfl
theorem F_moist_computable_eq (ds : List D) : F_moist_computable ds = runG Try.prog c_moist_computable (H_moist_computable bigL) an_moist_computable 55 (bodyOf Try.f64) [.tmp 8] ds := runG_eq lok_moist_computable _ ds
theorem C_moist_computable (ds : List D) (r : D) (h : F_moist_computable ds = some r) : Contract Try.prog 64 ds r := contract_of mix Try.func64 rfl (by kernel_rfl) (by kernel_rfl) (callOf_ok cl_moist_computable ⟨C_air_Check, C_moist_Check, trivial⟩) h
-- math/bits.Mul64: loops []; state: params 0..1, then [4, 5, 6, 7, 8, 9, 10, 11, 12, 13]
attribute [simp] Try.f77
noncomputable def an_math_bits_Mul64 : Ann := ⟨[0, 1, 4, 5, 6, 7, 8, 9, 10, 11, 12, 13], [], [], [], [], some [4, 5], []⟩
@[simp] theorem an_math_bits_Mul64_draws : an_math_bits_Mul64.draws = [] := rfl
@[simp] theorem an_math_bits_Mul64_exits : an_math_bits_Mul64.exits = [] := rfl
@[simp] theorem an_math_bits_Mul64_rets : an_math_bits_Mul64.rets = some [4, 5] := rfl
@[simp] theorem an_math_bits_Mul64_keep : an_math_bits_Mul64.keep = [0, 1, 4, 5, 6, 7, 8, 9, 10, 11, 12, 13] := rfl
@[simp] theorem an_math_bits_Mul64_cond : an_math_bits_Mul64.cond = [] := rfl
@[simp] theorem an_math_bits_Mul64_rows : an_math_bits_Mul64.rows = [] := rfl
@[simp] theorem an_math_bits_Mul64_loops : an_math_bits_Mul64.loops = [] := rfl
@[simp] noncomputable def cl_math_bits_Mul64 : List (Nat × (List D → Option D)) := []
@[simp] noncomputable def c_math_bits_Mul64 (f : FuncId) (ds : List D) : Option D := callOf cl_math_bits_Mul64 f ds
noncomputable def F_math_bits_Mul64 (ds : List D) : Option D := runF Try.prog c_math_bits_Mul64 an_math_bits_Mul64 51 (bodyOf Try.f77) [.tmp 4, .tmp 5] ds
noncomputable def L_math_bits_Mul64 (i n : Nat) (s : St) : Option (E × St) := atN Try.prog c_math_bits_Mul64 an_math_bits_Mul64 51 (bodyOf Try.f77) i n s
noncomputable def H_math_bits_Mul64 (n i : Nat) (s : St) : Option (E × St) := atH Try.prog c_math_bits_Mul64 an_math_bits_Mul64 51 (bodyOf Try.f77) n i s
@[simp] theorem H_math_bits_Mul64_eq (n i : Nat) (s : St) : H_math_bits_Mul64 n i s = L_math_bits_Mul64 i n (headOf (an_math_bits_Mul64.loops.lookup i) s) := rfl
noncomputable def R_math_bits_Mul64 (i : Nat) (s : St) : Option (E × St) := stepL Try.prog c_math_bits_Mul64 an_math_bits_Mul64 51 (bodyOf Try.f77) i s
theorem lok_math_bits_Mul64 : okLoops (bodyOf Try.f77) = true := by kernel_rfl
theorem F_math_bits_Mul64_eq (ds : List D) : F_math_bits_Mul64 ds = runG Try.prog c_math_bits_Mul64 (H_math_bits_Mul64 bigL) an_math_bits_Mul64 51 (bodyOf Try.f77) [.tmp 4, .tmp 5] ds := runG_eq lok_math_bits_Mul64 _ ds
theorem C_math_bits_Mul64 (ds : List D) (r : D) (h : F_math_bits_Mul64 ds = some r) : Contract Try.prog 77 ds r := contract_of mix Try.func77 rfl (by kernel_rfl) (by kernel_rfl) (callOf_ok cl_math_bits_Mul64 trivial) h
-- math/bits.Len64: loops []; state: params 0..0, then [2]
attribute [simp] Try.f81
noncomputable def an_math_bits_Len64 : Ann := ⟨[0, 2], [4, 8, 14], [], [], [], some [2], []⟩
@[simp] theorem an_math_bits_Len64_draws : an_math_bits_Len64.draws = [] := rfl
@[simp] theorem an_math_bits_Len64_exits : an_math_bits_Len64.exits = [] := rfl
@[simp] theorem an_math_bits_Len64_rets : an_math_bits_Len64.rets = some [2] := rfl
@[simp] theorem an_math_bits_Len64_keep : an_math_bits_Len64.keep = [0, 2] := rfl
@[simp] theorem an_math_bits_Len64_cond : an_math_bits_Len64.cond = [4, 8, 14] := rfl
@[simp] theorem an_math_bits_Len64_rows : an_math_bits_Len64.rows = [] := rfl
@[simp] theorem an_math_bits_Len64_loops : an_math_bits_Len64.loops = [] := rfl
@[simp] noncomputable def cl_math_bits_Len64 : List (Nat × (List D → Option D)) := []
@[simp] noncomputable def c_math_bits_Len64 (f : FuncId) (ds : List D) : Option D := callOf cl_math_bits_Len64 f ds
noncomputable def F_math_bits_Len64 (ds : List D) : Option D := runF Try.prog c_math_bits_Len64 an_math_bits_Len64 25 (bodyOf Try.f81) [.tmp 2] ds
noncomputable def L_math_bits_Len64 (i n : Nat) (s : St) : Option (E × St) := atN Try.prog c_math_bits_Len64 an_math_bits_Len64 25 (bodyOf Try.f81) i n s
noncomputable def H_math_bits_Len64 (n i : Nat) (s : St) : Option (E × St) := atH Try.prog c_math_bits_Len64 an_math_bits_Len64 25 (bodyOf Try.f81) n i s
@[simp] theorem H_math_bits_Len64_eq (n i : Nat) (s : St) : H_math_bits_Len64 n i s = L_math_bits_Len64 i n (headOf (an_math_bits_Len64.loops.lookup i) s) := rfl
noncomputable def R_math_bits_Len64 (i : Nat) (s : St) : Option (E × St) := stepL Try.prog c_math_bits_Len64 an_math_bits_Len64 25 (bodyOf Try.f81) i s
theorem lok_math_bits_Len64 : okLoops (bodyOf Try.f81) = true := by kernel_rfl
theorem F_math_bits_Len64_eq (ds : List D) : F_math_bits_Len64 ds = runG Try.prog c_math_bits_Len64 (H_math_bits_Len64 bigL) an_math_bits_Len64 25 (bodyOf Try.f81) [.tmp 2] ds := runG_eq lok_math_bits_Len64 _ ds
theorem C_math_bits_Len64 (ds : List D) (r : D) (h : F_math_bits_Len64 ds = some r) : Contract Try.prog 81 ds r := contract_of mix Try.func81 rfl (by kernel_rfl) (by kernel_rfl) (callOf_ok cl_math_bits_Len64 trivial) h
-- math/bits.LeadingZeros64: loops []; state: params 0..0, then [2]
attribute [simp] Try.f80
noncomputable def an_math_bits_LeadingZeros64 : Ann := ⟨[2], [], [], [], [], some [2], []⟩
@[simp] theorem an_math_bits_LeadingZeros64_draws : an_math_bits_LeadingZeros64.draws = [] := rfl
@[simp] theorem an_math_bits_LeadingZeros64_exits : an_math_bits_LeadingZeros64.exits = [] := rfl
@[simp] theorem an_math_bits_LeadingZeros64_rets : an_math_bits_LeadingZeros64.rets = some [2] := rfl
@[simp] theorem an_math_bits_LeadingZeros64_keep : an_math_bits_LeadingZeros64.keep = [2] := rfl
@[simp] theorem an_math_bits_LeadingZeros64_cond : an_math_bits_LeadingZeros64.cond = [] := rfl
@[simp] theorem an_math_bits_LeadingZeros64_rows : an_math_bits_LeadingZeros64.rows = [] := rfl
@[simp] theorem an_math_bits_LeadingZeros64_loops : an_math_bits_LeadingZeros64.loops = [] := rfl
@[simp] noncomputable def cl_math_bits_LeadingZeros64 : List (Nat × (List D → Option D)) := [(81, F_math_bits_Len64)]
@[simp] noncomputable def c_math_bits_LeadingZeros64 (f : FuncId) (ds : List D) : Option D := callOf cl_math_bits_LeadingZeros64 f ds
noncomputable def F_math_bits_LeadingZeros64 (ds : List D) : Option D := runF Try.prog c_math_bits_LeadingZeros64 an_math_bits_LeadingZeros64 6 (bodyOf Try.f80) [.tmp 2] ds
noncomputable def L_math_bits_LeadingZeros64 (i n : Nat) (s : St) : Option (E × St) := atN Try.prog c_math_bits_LeadingZeros64 an_math_bits_LeadingZeros64 6 (bodyOf Try.f80) i n s
noncomputable def H_math_bits_LeadingZeros64 (n i : Nat) (s : St) : Option (E × St) := atH Try.prog c_math_bits_LeadingZeros64 an_math_bits_LeadingZeros64 6 (bodyOf Try.f80) n i s
@[simp] theorem H_math_bits_LeadingZeros64_eq (n i : Nat) (s : St) : H_math_bits_LeadingZeros64 n i s = L_math_bits_LeadingZeros64 i n (headOf (an_math_bits_LeadingZeros64.loops.lookup i) s) := rfl
noncomputable def R_math_bits_LeadingZeros64 (i : Nat) (s : St) : Option (E × St) := stepL Try.prog c_math_bits_LeadingZeros64 an_math_bits_LeadingZeros64 6 (bodyOf Try.f80) i s
theorem lok_math_bits_LeadingZeros64 : okLoops (bodyOf Try.f80) = true := by kernel_rfl
theorem F_math_bits_LeadingZeros64_eq (ds : List D) : F_math_bits_LeadingZeros64 ds = runG Try.prog c_math_bits_LeadingZeros64 (H_math_bits_LeadingZeros64 bigL) an_math_bits_LeadingZeros64 6 (bodyOf Try.f80) [.tmp 2] ds := runG_eq lok_math_bits_LeadingZeros64 _ ds
theorem C_math_bits_LeadingZeros64 (ds : List D) (r : D) (h : F_math_bits_LeadingZeros64 ds = some r) : Contract Try.prog 80 ds r := contract_of mix Try.func80 rfl (by kernel_rfl) (by kernel_rfl) (callOf_ok cl_math_bits_LeadingZeros64 ⟨C_math_bits_Len64, trivial⟩) h
-- math/bits.Div64: loops [17, 24]; state: params 0..2, then [6, 7, 8, 9, 10, 11, 12, 13, 14, 15, 16, 17, 18]
attribute [simp] Try.f78
noncomputable def an_math_bits_Div64 : Ann := ⟨[0, 1, 2, 6, 7, 8, 9, 10, 11, 12, 13, 14, 15, 16, 17, 18], [20, 24, 27, 78, 85, 113, 120], [], [(17, [2, 8, 9, 10, 11, 13, 14, 15, 16]), (24, [2, 8, 9, 10, 14, 15, 16, 17, 18])], [(0, [2, 8, 9, 10, 11, 13, 14, 15]), (1, [2, 8, 9, 10, 11, 13, 14, 15, 16]), (2, [2, 8, 14, 15, 17, 18]), (3, [2, 8, 9, 10, 14, 15, 16, 17, 18])], some [6, 7], [(6, 7)]⟩
@[simp] theorem an_math_bits_Div64_draws : an_math_bits_Div64.draws = [(6, 7)] := rfl
@[simp] theorem an_math_bits_Div64_exits : an_math_bits_Div64.exits = [(0, [2, 8, 9, 10, 11, 13, 14, 15]), (1, [2, 8, 9, 10, 11, 13, 14, 15, 16]), (2, [2, 8, 14, 15, 17, 18]), (3, [2, 8, 9, 10, 14, 15, 16, 17, 18])] := rfl
@[simp] theorem an_math_bits_Div64_rets : an_math_bits_Div64.rets = some [6, 7] := rfl
@[simp] theorem an_math_bits_Div64_keep : an_math_bits_Div64.keep = [0, 1, 2, 6, 7, 8, 9, 10, 11, 12, 13, 14, 15, 16, 17, 18] := rfl
@[simp] theorem an_math_bits_Div64_cond : an_math_bits_Div64.cond = [20, 24, 27, 78, 85, 113, 120] := rfl
@[simp] theorem an_math_bits_Div64_rows : an_math_bits_Div64.rows = [] := rfl
@[simp] theorem an_math_bits_Div64_loops : an_math_bits_Div64.loops = [(17, [2, 8, 9, 10, 11, 13, 14, 15, 16]), (24, [2, 8, 9, 10, 14, 15, 16, 17, 18])] := rfl
@[simp] noncomputable def cl_math_bits_Div64 : List (Nat × (List D → Option D)) := [(80, F_math_bits_LeadingZeros64)]
@[simp] noncomputable def c_math_bits_Div64 (f : FuncId) (ds : List D) : Option D := callOf cl_math_bits_Div64 f ds
noncomputable def F_math_bits_Div64 (ds : List D) : Option D := runF Try.prog c_math_bits_Div64 an_math_bits_Div64 135 (bodyOf Try.f78) [.tmp 6, .tmp 7] ds
noncomputable def L_math_bits_Div64 (i n : Nat) (s : St) : Option (E × St) := atN Try.prog c_math_bits_Div64 an_math_bits_Div64 135 (bodyOf Try.f78) i n s
noncomputable def H_math_bits_Div64 (n i : Nat) (s : St) : Option (E × St) := atH Try.prog c_math_bits_Div64 an_math_bits_Div64 135 (bodyOf Try.f78) n i s
@[simp] theorem H_math_bits_Div64_eq (n i : Nat) (s : St) : H_math_bits_Div64 n i s = L_math_bits_Div64 i n (headOf (an_math_bits_Div64.loops.lookup i) s) := rfl
noncomputable def R_math_bits_Div64 (i : Nat) (s : St) : Option (E × St) := stepL Try.prog c_math_bits_Div64 an_math_bits_Div64 135 (bodyOf Try.f78) i s
theorem lok_math_bits_Div64 : okLoops (bodyOf Try.f78) = true := by kernel_rfl
theorem L_math_bits_Div64_zero (i : Nat) (s : St) : L_math_bits_Div64 i 0 s = none := rfl
theorem L_math_bits_Div64_succ (i n : Nat) (s : St) : L_math_bits_Div64 i (n + 1) s = andThen (R_math_bits_Div64 i s) (H_math_bits_Div64 n i) := atN_succ lok_math_bits_Div64 i n s
theorem R_math_bits_Div64_eq (i : Nat) (s : St) : R_math_bits_Div64 i s = runS Try.prog c_math_bits_Div64 (H_math_bits_Div64 bigL) an_math_bits_Div64 135 (loopAt (bodyOf Try.f78) i) s := rfl
theorem F_math_bits_Div64_eq (ds : List D) : F_math_bits_Div64 ds = runG Try.prog c_math_bits_Div64 (H_math_bits_Div64 bigL) an_math_bits_Div64 135 (bodyOf Try.f78) [.tmp 6, .tmp 7] ds := runG_eq lok_math_bits_Div64 _ ds
theorem C_math_bits_Div64 (ds : List D) (r : D) (h : F_math_bits_Div64 ds = some r) : Contract Try.prog 78 ds r := contract_of mix Try.func78 rfl (by kernel_rfl) (by kernel_rfl) (callOf_ok cl_math_bits_Div64 ⟨C_math_bits_LeadingZeros64, trivial⟩) h
-- sawmill/units.Toward: loops []; state: params 0..2, then [6, 7, 8, 9, 10]
attribute [simp] Try.f65
noncomputable def an_units_Toward : Ann := ⟨[0, 1, 2, 6, 7, 8, 9, 10], [20, 29, 52], [], [], [], some [6], []⟩
@[simp] theorem an_units_Toward_draws : an_units_Toward.draws = [] := rfl
@[simp] theorem an_units_Toward_exits : an_units_Toward.exits = [] := rfl
@[simp] theorem an_units_Toward_rets : an_units_Toward.rets = some [6] := rfl
@[simp] theorem an_units_Toward_keep : an_units_Toward.keep = [0, 1, 2, 6, 7, 8, 9, 10] := rfl
@[simp] theorem an_units_Toward_cond : an_units_Toward.cond = [20, 29, 52] := rfl
@[simp] theorem an_units_Toward_rows : an_units_Toward.rows = [] := rfl
@[simp] theorem an_units_Toward_loops : an_units_Toward.loops = [] := rfl
@[simp] noncomputable def cl_units_Toward : List (Nat × (List D → Option D)) := [(47, F_units_Clamp), (77, F_math_bits_Mul64), (78, F_math_bits_Div64)]
@[simp] noncomputable def c_units_Toward (f : FuncId) (ds : List D) : Option D := callOf cl_units_Toward f ds
noncomputable def F_units_Toward (ds : List D) : Option D := runF Try.prog c_units_Toward an_units_Toward 63 (bodyOf Try.f65) [.tmp 6] ds
noncomputable def L_units_Toward (i n : Nat) (s : St) : Option (E × St) := atN Try.prog c_units_Toward an_units_Toward 63 (bodyOf Try.f65) i n s
noncomputable def H_units_Toward (n i : Nat) (s : St) : Option (E × St) := atH Try.prog c_units_Toward an_units_Toward 63 (bodyOf Try.f65) n i s
@[simp] theorem H_units_Toward_eq (n i : Nat) (s : St) : H_units_Toward n i s = L_units_Toward i n (headOf (an_units_Toward.loops.lookup i) s) := rfl
noncomputable def R_units_Toward (i : Nat) (s : St) : Option (E × St) := stepL Try.prog c_units_Toward an_units_Toward 63 (bodyOf Try.f65) i s
theorem lok_units_Toward : okLoops (bodyOf Try.f65) = true := by kernel_rfl
theorem F_units_Toward_eq (ds : List D) : F_units_Toward ds = runG Try.prog c_units_Toward (H_units_Toward bigL) an_units_Toward 63 (bodyOf Try.f65) [.tmp 6] ds := runG_eq lok_units_Toward _ ds
theorem C_units_Toward (ds : List D) (r : D) (h : F_units_Toward ds = some r) : Contract Try.prog 65 ds r := contract_of mix Try.func65 rfl (by kernel_rfl) (by kernel_rfl) (callOf_ok cl_units_Toward ⟨C_units_Clamp, C_math_bits_Mul64, C_math_bits_Div64, trivial⟩) h
-- sawmill/moist.Tick: loops []; state: params 0..4, then [5, 6, 8, 10, 18]
attribute [simp] Try.f52
noncomputable def an_moist_Tick : Ann := ⟨[2, 5, 6, 8, 10, 18], [16, 19], [], [], [(0, [5, 6, 10]), (1, [2, 5, 6, 8, 10]), (2, [2, 5, 6, 8, 10])], some [10], [(5, 11), (6, 14)]⟩
@[simp] theorem an_moist_Tick_draws : an_moist_Tick.draws = [(5, 11), (6, 14)] := rfl
@[simp] theorem an_moist_Tick_exits : an_moist_Tick.exits = [(0, [5, 6, 10]), (1, [2, 5, 6, 8, 10]), (2, [2, 5, 6, 8, 10])] := rfl
@[simp] theorem an_moist_Tick_rets : an_moist_Tick.rets = some [10] := rfl
@[simp] theorem an_moist_Tick_keep : an_moist_Tick.keep = [2, 5, 6, 8, 10, 18] := rfl
@[simp] theorem an_moist_Tick_cond : an_moist_Tick.cond = [16, 19] := rfl
@[simp] theorem an_moist_Tick_rows : an_moist_Tick.rows = [] := rfl
@[simp] theorem an_moist_Tick_loops : an_moist_Tick.loops = [] := rfl
@[simp] noncomputable def cl_moist_Tick : List (Nat × (List D → Option D)) := [(21, F_air_Emc), (47, F_units_Clamp), (64, F_moist_computable), (65, F_units_Toward)]
@[simp] noncomputable def c_moist_Tick (f : FuncId) (ds : List D) : Option D := callOf cl_moist_Tick f ds
noncomputable def F_moist_Tick (ds : List D) : Option D := runF Try.prog c_moist_Tick an_moist_Tick 65 (bodyOf Try.f52) [.cell 10 45] ds
noncomputable def L_moist_Tick (i n : Nat) (s : St) : Option (E × St) := atN Try.prog c_moist_Tick an_moist_Tick 65 (bodyOf Try.f52) i n s
noncomputable def H_moist_Tick (n i : Nat) (s : St) : Option (E × St) := atH Try.prog c_moist_Tick an_moist_Tick 65 (bodyOf Try.f52) n i s
@[simp] theorem H_moist_Tick_eq (n i : Nat) (s : St) : H_moist_Tick n i s = L_moist_Tick i n (headOf (an_moist_Tick.loops.lookup i) s) := rfl
noncomputable def R_moist_Tick (i : Nat) (s : St) : Option (E × St) := stepL Try.prog c_moist_Tick an_moist_Tick 65 (bodyOf Try.f52) i s
theorem lok_moist_Tick : okLoops (bodyOf Try.f52) = true := by kernel_rfl
theorem F_moist_Tick_eq (ds : List D) : F_moist_Tick ds = runG Try.prog c_moist_Tick (H_moist_Tick bigL) an_moist_Tick 65 (bodyOf Try.f52) [.cell 10 45] ds := runG_eq lok_moist_Tick _ ds
theorem C_moist_Tick (ds : List D) (r : D) (h : F_moist_Tick ds = some r) : Contract Try.prog 52 ds r := contract_of mix Try.func52 rfl (by kernel_rfl) (by kernel_rfl) (callOf_ok cl_moist_Tick ⟨C_air_Emc, C_units_Clamp, C_moist_computable, C_units_Toward, trivial⟩) h
-- sawmill/sawmilllaw36.tick: loops []; state: params 0..0, then [1, 2]
attribute [simp] Try.f28
noncomputable def an_law36_tick : Ann := ⟨[1, 2], [], [], [], [], some [2], []⟩
@[simp] theorem an_law36_tick_draws : an_law36_tick.draws = [] := rfl
@[simp] theorem an_law36_tick_exits : an_law36_tick.exits = [] := rfl
@[simp] theorem an_law36_tick_rets : an_law36_tick.rets = some [2] := rfl
@[simp] theorem an_law36_tick_keep : an_law36_tick.keep = [1, 2] := rfl
@[simp] theorem an_law36_tick_cond : an_law36_tick.cond = [] := rfl
@[simp] theorem an_law36_tick_rows : an_law36_tick.rows = [] := rfl
@[simp] theorem an_law36_tick_loops : an_law36_tick.loops = [] := rfl
@[simp] noncomputable def cl_law36_tick : List (Nat × (List D → Option D)) := [(52, F_moist_Tick)]
@[simp] noncomputable def c_law36_tick (f : FuncId) (ds : List D) : Option D := callOf cl_law36_tick f ds
noncomputable def F_law36_tick (ds : List D) : Option D := runF Try.prog c_law36_tick an_law36_tick 14 (bodyOf Try.f28) [.cell 2 45] ds
noncomputable def L_law36_tick (i n : Nat) (s : St) : Option (E × St) := atN Try.prog c_law36_tick an_law36_tick 14 (bodyOf Try.f28) i n s
noncomputable def H_law36_tick (n i : Nat) (s : St) : Option (E × St) := atH Try.prog c_law36_tick an_law36_tick 14 (bodyOf Try.f28) n i s
@[simp] theorem H_law36_tick_eq (n i : Nat) (s : St) : H_law36_tick n i s = L_law36_tick i n (headOf (an_law36_tick.loops.lookup i) s) := rfl
noncomputable def R_law36_tick (i : Nat) (s : St) : Option (E × St) := stepL Try.prog c_law36_tick an_law36_tick 14 (bodyOf Try.f28) i s
theorem lok_law36_tick : okLoops (bodyOf Try.f28) = true := by kernel_rfl
theorem F_law36_tick_eq (ds : List D) : F_law36_tick ds = runG Try.prog c_law36_tick (H_law36_tick bigL) an_law36_tick 14 (bodyOf Try.f28) [.cell 2 45] ds := runG_eq lok_law36_tick _ ds
theorem C_law36_tick (ds : List D) (r : D) (h : F_law36_tick ds = some r) : Contract Try.prog 28 ds r := contract_of mix Try.func28 rfl (by kernel_rfl) (by kernel_rfl) (callOf_ok cl_law36_tick ⟨C_moist_Tick, trivial⟩) h
-- sawmill/sawmillref36.Check: loops []; state: params 0..0, then [1, 2]
attribute [simp] Try.f32
noncomputable def an_ref36_Check : Ann := ⟨[1, 2], [20, 28], [], [], [], some [2], []⟩
@[simp] theorem an_ref36_Check_draws : an_ref36_Check.draws = [] := rfl
@[simp] theorem an_ref36_Check_exits : an_ref36_Check.exits = [] := rfl
@[simp] theorem an_ref36_Check_rets : an_ref36_Check.rets = some [2] := rfl
@[simp] theorem an_ref36_Check_keep : an_ref36_Check.keep = [1, 2] := rfl
@[simp] theorem an_ref36_Check_cond : an_ref36_Check.cond = [20, 28] := rfl
@[simp] theorem an_ref36_Check_rows : an_ref36_Check.rows = [] := rfl
@[simp] theorem an_ref36_Check_loops : an_ref36_Check.loops = [] := rfl
@[simp] noncomputable def cl_ref36_Check : List (Nat × (List D → Option D)) := []
@[simp] noncomputable def c_ref36_Check (f : FuncId) (ds : List D) : Option D := callOf cl_ref36_Check f ds
noncomputable def F_ref36_Check (ds : List D) : Option D := runF Try.prog c_ref36_Check an_ref36_Check 29 (bodyOf Try.f32) [.tmp 2] ds
noncomputable def L_ref36_Check (i n : Nat) (s : St) : Option (E × St) := atN Try.prog c_ref36_Check an_ref36_Check 29 (bodyOf Try.f32) i n s
noncomputable def H_ref36_Check (n i : Nat) (s : St) : Option (E × St) := atH Try.prog c_ref36_Check an_ref36_Check 29 (bodyOf Try.f32) n i s
@[simp] theorem H_ref36_Check_eq (n i : Nat) (s : St) : H_ref36_Check n i s = L_ref36_Check i n (headOf (an_ref36_Check.loops.lookup i) s) := rfl
noncomputable def R_ref36_Check (i : Nat) (s : St) : Option (E × St) := stepL Try.prog c_ref36_Check an_ref36_Check 29 (bodyOf Try.f32) i s
theorem lok_ref36_Check : okLoops (bodyOf Try.f32) = true := by kernel_rfl
theorem F_ref36_Check_eq (ds : List D) : F_ref36_Check ds = runG Try.prog c_ref36_Check (H_ref36_Check bigL) an_ref36_Check 29 (bodyOf Try.f32) [.tmp 2] ds := runG_eq lok_ref36_Check _ ds
theorem C_ref36_Check (ds : List D) (r : D) (h : F_ref36_Check ds = some r) : Contract Try.prog 32 ds r := contract_of mix Try.func32 rfl (by kernel_rfl) (by kernel_rfl) (callOf_ok cl_ref36_Check trivial) h
-- sawmill/sawmillref36.speed: loops []; state: params 0..0, then [2]
attribute [simp] Try.f66
noncomputable def an_ref36_speed : Ann := ⟨[2], [], [], [], [], some [2], []⟩
@[simp] theorem an_ref36_speed_draws : an_ref36_speed.draws = [] := rfl
@[simp] theorem an_ref36_speed_exits : an_ref36_speed.exits = [] := rfl
@[simp] theorem an_ref36_speed_rets : an_ref36_speed.rets = some [2] := rfl
@[simp] theorem an_ref36_speed_keep : an_ref36_speed.keep = [2] := rfl
@[simp] theorem an_ref36_speed_cond : an_ref36_speed.cond = [] := rfl
@[simp] theorem an_ref36_speed_rows : an_ref36_speed.rows = [] := rfl
@[simp] theorem an_ref36_speed_loops : an_ref36_speed.loops = [] := rfl
@[simp] noncomputable def cl_ref36_speed : List (Nat × (List D → Option D)) := []
@[simp] noncomputable def c_ref36_speed (f : FuncId) (ds : List D) : Option D := callOf cl_ref36_speed f ds
noncomputable def F_ref36_speed (ds : List D) : Option D := runF Try.prog c_ref36_speed an_ref36_speed 9 (bodyOf Try.f66) [.tmp 2] ds
noncomputable def L_ref36_speed (i n : Nat) (s : St) : Option (E × St) := atN Try.prog c_ref36_speed an_ref36_speed 9 (bodyOf Try.f66) i n s
noncomputable def H_ref36_speed (n i : Nat) (s : St) : Option (E × St) := atH Try.prog c_ref36_speed an_ref36_speed 9 (bodyOf Try.f66) n i s
@[simp] theorem H_ref36_speed_eq (n i : Nat) (s : St) : H_ref36_speed n i s = L_ref36_speed i n (headOf (an_ref36_speed.loops.lookup i) s) := rfl
noncomputable def R_ref36_speed (i : Nat) (s : St) : Option (E × St) := stepL Try.prog c_ref36_speed an_ref36_speed 9 (bodyOf Try.f66) i s
theorem lok_ref36_speed : okLoops (bodyOf Try.f66) = true := by kernel_rfl
theorem F_ref36_speed_eq (ds : List D) : F_ref36_speed ds = runG Try.prog c_ref36_speed (H_ref36_speed bigL) an_ref36_speed 9 (bodyOf Try.f66) [.tmp 2] ds := runG_eq lok_ref36_speed _ ds
theorem C_ref36_speed (ds : List D) (r : D) (h : F_ref36_speed ds = some r) : Contract Try.prog 66 ds r := contract_of mix Try.func66 rfl (by kernel_rfl) (by kernel_rfl) (callOf_ok cl_ref36_speed trivial) h
-- sawmill/sawmillref36.Ticks: loops []; state: params 0..3, then [4, 5, 7, 8]
attribute [simp] Try.f53
noncomputable def an_ref36_Ticks : Ann := ⟨[4, 5, 7, 8], [], [], [], [], some [8], []⟩
@[simp] theorem an_ref36_Ticks_draws : an_ref36_Ticks.draws = [] := rfl
@[simp] theorem an_ref36_Ticks_exits : an_ref36_Ticks.exits = [] := rfl
@[simp] theorem an_ref36_Ticks_rets : an_ref36_Ticks.rets = some [8] := rfl
@[simp] theorem an_ref36_Ticks_keep : an_ref36_Ticks.keep = [4, 5, 7, 8] := rfl
@[simp] theorem an_ref36_Ticks_cond : an_ref36_Ticks.cond = [] := rfl
@[simp] theorem an_ref36_Ticks_rows : an_ref36_Ticks.rows = [] := rfl
@[simp] theorem an_ref36_Ticks_loops : an_ref36_Ticks.loops = [] := rfl
@[simp] noncomputable def cl_ref36_Ticks : List (Nat × (List D → Option D)) := [(20, F_ref35_Check), (32, F_ref36_Check), (66, F_ref36_speed)]
@[simp] noncomputable def c_ref36_Ticks (f : FuncId) (ds : List D) : Option D := callOf cl_ref36_Ticks f ds
noncomputable def F_ref36_Ticks (ds : List D) : Option D := runF Try.prog c_ref36_Ticks an_ref36_Ticks 45 (bodyOf Try.f53) [.tmp 8] ds
noncomputable def L_ref36_Ticks (i n : Nat) (s : St) : Option (E × St) := atN Try.prog c_ref36_Ticks an_ref36_Ticks 45 (bodyOf Try.f53) i n s
noncomputable def H_ref36_Ticks (n i : Nat) (s : St) : Option (E × St) := atH Try.prog c_ref36_Ticks an_ref36_Ticks 45 (bodyOf Try.f53) n i s
@[simp] theorem H_ref36_Ticks_eq (n i : Nat) (s : St) : H_ref36_Ticks n i s = L_ref36_Ticks i n (headOf (an_ref36_Ticks.loops.lookup i) s) := rfl
noncomputable def R_ref36_Ticks (i : Nat) (s : St) : Option (E × St) := stepL Try.prog c_ref36_Ticks an_ref36_Ticks 45 (bodyOf Try.f53) i s
theorem lok_ref36_Ticks : okLoops (bodyOf Try.f53) = true := by kernel_rfl
theorem F_ref36_Ticks_eq (ds : List D) : F_ref36_Ticks ds = runG Try.prog c_ref36_Ticks (H_ref36_Ticks bigL) an_ref36_Ticks 45 (bodyOf Try.f53) [.tmp 8] ds := runG_eq lok_ref36_Ticks _ ds
theorem C_ref36_Ticks (ds : List D) (r : D) (h : F_ref36_Ticks ds = some r) : Contract Try.prog 53 ds r := contract_of mix Try.func53 rfl (by kernel_rfl) (by kernel_rfl) (callOf_ok cl_ref36_Ticks ⟨C_ref35_Check, C_ref36_Check, C_ref36_speed, trivial⟩) h
-- sawmill/sawmillref01.Clamp: loops []; state: params 0..2, then [6]
attribute [simp] Try.f55
noncomputable def an_ref01_Clamp : Ann := ⟨[0, 1, 2, 6], [14, 18], [], [], [], some [6], []⟩
@[simp] theorem an_ref01_Clamp_draws : an_ref01_Clamp.draws = [] := rfl
@[simp] theorem an_ref01_Clamp_exits : an_ref01_Clamp.exits = [] := rfl
@[simp] theorem an_ref01_Clamp_rets : an_ref01_Clamp.rets = some [6] := rfl
@[simp] theorem an_ref01_Clamp_keep : an_ref01_Clamp.keep = [0, 1, 2, 6] := rfl
@[simp] theorem an_ref01_Clamp_cond : an_ref01_Clamp.cond = [14, 18] := rfl
@[simp] theorem an_ref01_Clamp_rows : an_ref01_Clamp.rows = [] := rfl
@[simp] theorem an_ref01_Clamp_loops : an_ref01_Clamp.loops = [] := rfl
@[simp] noncomputable def cl_ref01_Clamp : List (Nat × (List D → Option D)) := []
@[simp] noncomputable def c_ref01_Clamp (f : FuncId) (ds : List D) : Option D := callOf cl_ref01_Clamp f ds
noncomputable def F_ref01_Clamp (ds : List D) : Option D := runF Try.prog c_ref01_Clamp an_ref01_Clamp 21 (bodyOf Try.f55) [.tmp 6] ds
noncomputable def L_ref01_Clamp (i n : Nat) (s : St) : Option (E × St) := atN Try.prog c_ref01_Clamp an_ref01_Clamp 21 (bodyOf Try.f55) i n s
noncomputable def H_ref01_Clamp (n i : Nat) (s : St) : Option (E × St) := atH Try.prog c_ref01_Clamp an_ref01_Clamp 21 (bodyOf Try.f55) n i s
@[simp] theorem H_ref01_Clamp_eq (n i : Nat) (s : St) : H_ref01_Clamp n i s = L_ref01_Clamp i n (headOf (an_ref01_Clamp.loops.lookup i) s) := rfl
noncomputable def R_ref01_Clamp (i : Nat) (s : St) : Option (E × St) := stepL Try.prog c_ref01_Clamp an_ref01_Clamp 21 (bodyOf Try.f55) i s
theorem lok_ref01_Clamp : okLoops (bodyOf Try.f55) = true := by kernel_rfl
theorem F_ref01_Clamp_eq (ds : List D) : F_ref01_Clamp ds = runG Try.prog c_ref01_Clamp (H_ref01_Clamp bigL) an_ref01_Clamp 21 (bodyOf Try.f55) [.tmp 6] ds := runG_eq lok_ref01_Clamp _ ds
theorem C_ref01_Clamp (ds : List D) (r : D) (h : F_ref01_Clamp ds = some r) : Contract Try.prog 55 ds r := contract_of mix Try.func55 rfl (by kernel_rfl) (by kernel_rfl) (callOf_ok cl_ref01_Clamp trivial) h
-- sawmill/sawmillref01.part: loops []; state: params 0..1, then [4, 5]
attribute [simp] Try.f67
noncomputable def an_ref01_part : Ann := ⟨[0, 1, 4, 5], [25], [], [], [], some [4], []⟩
@[simp] theorem an_ref01_part_draws : an_ref01_part.draws = [] := rfl
@[simp] theorem an_ref01_part_exits : an_ref01_part.exits = [] := rfl
@[simp] theorem an_ref01_part_rets : an_ref01_part.rets = some [4] := rfl
@[simp] theorem an_ref01_part_keep : an_ref01_part.keep = [0, 1, 4, 5] := rfl
@[simp] theorem an_ref01_part_cond : an_ref01_part.cond = [25] := rfl
@[simp] theorem an_ref01_part_rows : an_ref01_part.rows = [] := rfl
@[simp] theorem an_ref01_part_loops : an_ref01_part.loops = [] := rfl
@[simp] noncomputable def cl_ref01_part : List (Nat × (List D → Option D)) := []
@[simp] noncomputable def c_ref01_part (f : FuncId) (ds : List D) : Option D := callOf cl_ref01_part f ds
noncomputable def F_ref01_part (ds : List D) : Option D := runF Try.prog c_ref01_part an_ref01_part 27 (bodyOf Try.f67) [.tmp 4] ds
noncomputable def L_ref01_part (i n : Nat) (s : St) : Option (E × St) := atN Try.prog c_ref01_part an_ref01_part 27 (bodyOf Try.f67) i n s
noncomputable def H_ref01_part (n i : Nat) (s : St) : Option (E × St) := atH Try.prog c_ref01_part an_ref01_part 27 (bodyOf Try.f67) n i s
@[simp] theorem H_ref01_part_eq (n i : Nat) (s : St) : H_ref01_part n i s = L_ref01_part i n (headOf (an_ref01_part.loops.lookup i) s) := rfl
noncomputable def R_ref01_part (i : Nat) (s : St) : Option (E × St) := stepL Try.prog c_ref01_part an_ref01_part 27 (bodyOf Try.f67) i s
theorem lok_ref01_part : okLoops (bodyOf Try.f67) = true := by kernel_rfl
theorem F_ref01_part_eq (ds : List D) : F_ref01_part ds = runG Try.prog c_ref01_part (H_ref01_part bigL) an_ref01_part 27 (bodyOf Try.f67) [.tmp 4] ds := runG_eq lok_ref01_part _ ds
theorem C_ref01_part (ds : List D) (r : D) (h : F_ref01_part ds = some r) : Contract Try.prog 67 ds r := contract_of mix Try.func67 rfl (by kernel_rfl) (by kernel_rfl) (callOf_ok cl_ref01_part trivial) h
-- sawmill/sawmillref01.Toward: loops []; state: params 0..2, then [6, 7]
attribute [simp] Try.f54
noncomputable def an_ref01_Toward : Ann := ⟨[0, 1, 6, 7], [13], [], [], [], some [6], []⟩
@[simp] theorem an_ref01_Toward_draws : an_ref01_Toward.draws = [] := rfl
@[simp] theorem an_ref01_Toward_exits : an_ref01_Toward.exits = [] := rfl
@[simp] theorem an_ref01_Toward_rets : an_ref01_Toward.rets = some [6] := rfl
@[simp] theorem an_ref01_Toward_keep : an_ref01_Toward.keep = [0, 1, 6, 7] := rfl
@[simp] theorem an_ref01_Toward_cond : an_ref01_Toward.cond = [13] := rfl
@[simp] theorem an_ref01_Toward_rows : an_ref01_Toward.rows = [] := rfl
@[simp] theorem an_ref01_Toward_loops : an_ref01_Toward.loops = [] := rfl
@[simp] noncomputable def cl_ref01_Toward : List (Nat × (List D → Option D)) := [(55, F_ref01_Clamp), (67, F_ref01_part)]
@[simp] noncomputable def c_ref01_Toward (f : FuncId) (ds : List D) : Option D := callOf cl_ref01_Toward f ds
noncomputable def F_ref01_Toward (ds : List D) : Option D := runF Try.prog c_ref01_Toward an_ref01_Toward 36 (bodyOf Try.f54) [.tmp 6] ds
noncomputable def L_ref01_Toward (i n : Nat) (s : St) : Option (E × St) := atN Try.prog c_ref01_Toward an_ref01_Toward 36 (bodyOf Try.f54) i n s
noncomputable def H_ref01_Toward (n i : Nat) (s : St) : Option (E × St) := atH Try.prog c_ref01_Toward an_ref01_Toward 36 (bodyOf Try.f54) n i s
@[simp] theorem H_ref01_Toward_eq (n i : Nat) (s : St) : H_ref01_Toward n i s = L_ref01_Toward i n (headOf (an_ref01_Toward.loops.lookup i) s) := rfl
noncomputable def R_ref01_Toward (i : Nat) (s : St) : Option (E × St) := stepL Try.prog c_ref01_Toward an_ref01_Toward 36 (bodyOf Try.f54) i s
theorem lok_ref01_Toward : okLoops (bodyOf Try.f54) = true := by kernel_rfl
theorem F_ref01_Toward_eq (ds : List D) : F_ref01_Toward ds = runG Try.prog c_ref01_Toward (H_ref01_Toward bigL) an_ref01_Toward 36 (bodyOf Try.f54) [.tmp 6] ds := runG_eq lok_ref01_Toward _ ds
theorem C_ref01_Toward (ds : List D) (r : D) (h : F_ref01_Toward ds = some r) : Contract Try.prog 54 ds r := contract_of mix Try.func54 rfl (by kernel_rfl) (by kernel_rfl) (callOf_ok cl_ref01_Toward ⟨C_ref01_Clamp, C_ref01_part, trivial⟩) h
-- sawmill/sawmillref36.Tick: loops []; state: params 0..4, then [5, 6, 8, 10]
attribute [simp] Try.f29
noncomputable def an_ref36_Tick : Ann := ⟨[2, 5, 6, 8, 10], [16, 18], [], [], [], some [10], [(4, 11), (5, 14)]⟩
@[simp] theorem an_ref36_Tick_draws : an_ref36_Tick.draws = [(4, 11), (5, 14)] := rfl
@[simp] theorem an_ref36_Tick_exits : an_ref36_Tick.exits = [] := rfl
@[simp] theorem an_ref36_Tick_rets : an_ref36_Tick.rets = some [10] := rfl
@[simp] theorem an_ref36_Tick_keep : an_ref36_Tick.keep = [2, 5, 6, 8, 10] := rfl
@[simp] theorem an_ref36_Tick_cond : an_ref36_Tick.cond = [16, 18] := rfl
@[simp] theorem an_ref36_Tick_rows : an_ref36_Tick.rows = [] := rfl
@[simp] theorem an_ref36_Tick_loops : an_ref36_Tick.loops = [] := rfl
@[simp] noncomputable def cl_ref36_Tick : List (Nat × (List D → Option D)) := [(22, F_ref35_Emc), (53, F_ref36_Ticks), (54, F_ref01_Toward), (55, F_ref01_Clamp)]
@[simp] noncomputable def c_ref36_Tick (f : FuncId) (ds : List D) : Option D := callOf cl_ref36_Tick f ds
noncomputable def F_ref36_Tick (ds : List D) : Option D := runF Try.prog c_ref36_Tick an_ref36_Tick 63 (bodyOf Try.f29) [.cell 10 45] ds
noncomputable def L_ref36_Tick (i n : Nat) (s : St) : Option (E × St) := atN Try.prog c_ref36_Tick an_ref36_Tick 63 (bodyOf Try.f29) i n s
noncomputable def H_ref36_Tick (n i : Nat) (s : St) : Option (E × St) := atH Try.prog c_ref36_Tick an_ref36_Tick 63 (bodyOf Try.f29) n i s
@[simp] theorem H_ref36_Tick_eq (n i : Nat) (s : St) : H_ref36_Tick n i s = L_ref36_Tick i n (headOf (an_ref36_Tick.loops.lookup i) s) := rfl
noncomputable def R_ref36_Tick (i : Nat) (s : St) : Option (E × St) := stepL Try.prog c_ref36_Tick an_ref36_Tick 63 (bodyOf Try.f29) i s
theorem lok_ref36_Tick : okLoops (bodyOf Try.f29) = true := by kernel_rfl
theorem F_ref36_Tick_eq (ds : List D) : F_ref36_Tick ds = runG Try.prog c_ref36_Tick (H_ref36_Tick bigL) an_ref36_Tick 63 (bodyOf Try.f29) [.cell 10 45] ds := runG_eq lok_ref36_Tick _ ds
theorem C_ref36_Tick (ds : List D) (r : D) (h : F_ref36_Tick ds = some r) : Contract Try.prog 29 ds r := contract_of mix Try.func29 rfl (by kernel_rfl) (by kernel_rfl) (callOf_ok cl_ref36_Tick ⟨C_ref35_Emc, C_ref36_Ticks, C_ref01_Toward, C_ref01_Clamp, trivial⟩) h
-- sawmill/sawmilllaw36.sample: loops []; state: params 0..-1, then [0, 1]
attribute [simp] Try.f56
noncomputable def an_law36_sample : Ann := ⟨[0, 1], [], [], [], [], some [0], []⟩
@[simp] theorem an_law36_sample_draws : an_law36_sample.draws = [] := rfl
@[simp] theorem an_law36_sample_exits : an_law36_sample.exits = [] := rfl
@[simp] theorem an_law36_sample_rets : an_law36_sample.rets = some [0] := rfl
@[simp] theorem an_law36_sample_keep : an_law36_sample.keep = [0, 1] := rfl
@[simp] theorem an_law36_sample_cond : an_law36_sample.cond = [] := rfl
@[simp] theorem an_law36_sample_rows : an_law36_sample.rows = [] := rfl
@[simp] theorem an_law36_sample_loops : an_law36_sample.loops = [] := rfl
@[simp] noncomputable def cl_law36_sample : List (Nat × (List D → Option D)) := []
@[simp] noncomputable def c_law36_sample (f : FuncId) (ds : List D) : Option D := callOf cl_law36_sample f ds
noncomputable def F_law36_sample (ds : List D) : Option D := runF Try.prog c_law36_sample an_law36_sample 7 (bodyOf Try.f56) [.cell 0 49] ds
noncomputable def L_law36_sample (i n : Nat) (s : St) : Option (E × St) := atN Try.prog c_law36_sample an_law36_sample 7 (bodyOf Try.f56) i n s
noncomputable def H_law36_sample (n i : Nat) (s : St) : Option (E × St) := atH Try.prog c_law36_sample an_law36_sample 7 (bodyOf Try.f56) n i s
@[simp] theorem H_law36_sample_eq (n i : Nat) (s : St) : H_law36_sample n i s = L_law36_sample i n (headOf (an_law36_sample.loops.lookup i) s) := rfl
noncomputable def R_law36_sample (i : Nat) (s : St) : Option (E × St) := stepL Try.prog c_law36_sample an_law36_sample 7 (bodyOf Try.f56) i s
theorem lok_law36_sample : okLoops (bodyOf Try.f56) = true := by kernel_rfl
theorem F_law36_sample_eq (ds : List D) : F_law36_sample ds = runG Try.prog c_law36_sample (H_law36_sample bigL) an_law36_sample 7 (bodyOf Try.f56) [.cell 0 49] ds := runG_eq lok_law36_sample _ ds
theorem C_law36_sample (ds : List D) (r : D) (h : F_law36_sample ds = some r) : Contract Try.prog 56 ds r := contract_of mix Try.func56 rfl (by kernel_rfl) (by kernel_rfl) (callOf_ok cl_law36_sample trivial) h
-- sawmill/moist.Green: loops []; state: params 0..0, then [1, 2]
attribute [simp] Try.f33
noncomputable def an_moist_Green : Ann := ⟨[1, 2], [], [], [], [], some [2], []⟩
@[simp] theorem an_moist_Green_draws : an_moist_Green.draws = [] := rfl
@[simp] theorem an_moist_Green_exits : an_moist_Green.exits = [] := rfl
@[simp] theorem an_moist_Green_rets : an_moist_Green.rets = some [2] := rfl
@[simp] theorem an_moist_Green_keep : an_moist_Green.keep = [1, 2] := rfl
@[simp] theorem an_moist_Green_cond : an_moist_Green.cond = [] := rfl
@[simp] theorem an_moist_Green_rows : an_moist_Green.rows = [] := rfl
@[simp] theorem an_moist_Green_loops : an_moist_Green.loops = [] := rfl
@[simp] noncomputable def cl_moist_Green : List (Nat × (List D → Option D)) := []
@[simp] noncomputable def c_moist_Green (f : FuncId) (ds : List D) : Option D := callOf cl_moist_Green f ds
noncomputable def F_moist_Green (ds : List D) : Option D := runF Try.prog c_moist_Green an_moist_Green 8 (bodyOf Try.f33) [.cell 2 45] ds
noncomputable def L_moist_Green (i n : Nat) (s : St) : Option (E × St) := atN Try.prog c_moist_Green an_moist_Green 8 (bodyOf Try.f33) i n s
noncomputable def H_moist_Green (n i : Nat) (s : St) : Option (E × St) := atH Try.prog c_moist_Green an_moist_Green 8 (bodyOf Try.f33) n i s
@[simp] theorem H_moist_Green_eq (n i : Nat) (s : St) : H_moist_Green n i s = L_moist_Green i n (headOf (an_moist_Green.loops.lookup i) s) := rfl
noncomputable def R_moist_Green (i : Nat) (s : St) : Option (E × St) := stepL Try.prog c_moist_Green an_moist_Green 8 (bodyOf Try.f33) i s
theorem lok_moist_Green : okLoops (bodyOf Try.f33) = true := by kernel_rfl
theorem F_moist_Green_eq (ds : List D) : F_moist_Green ds = runG Try.prog c_moist_Green (H_moist_Green bigL) an_moist_Green 8 (bodyOf Try.f33) [.cell 2 45] ds := runG_eq lok_moist_Green _ ds
theorem C_moist_Green (ds : List D) (r : D) (h : F_moist_Green ds = some r) : Contract Try.prog 33 ds r := contract_of mix Try.func33 rfl (by kernel_rfl) (by kernel_rfl) (callOf_ok cl_moist_Green trivial) h
-- sawmill/moist.Mean: loops []; state: params 0..0, then [1, 2]
attribute [simp] Try.f35
noncomputable def an_moist_Mean : Ann := ⟨[1, 2], [5], [], [], [], some [2], []⟩
@[simp] theorem an_moist_Mean_draws : an_moist_Mean.draws = [] := rfl
@[simp] theorem an_moist_Mean_exits : an_moist_Mean.exits = [] := rfl
@[simp] theorem an_moist_Mean_rets : an_moist_Mean.rets = some [2] := rfl
@[simp] theorem an_moist_Mean_keep : an_moist_Mean.keep = [1, 2] := rfl
@[simp] theorem an_moist_Mean_cond : an_moist_Mean.cond = [5] := rfl
@[simp] theorem an_moist_Mean_rows : an_moist_Mean.rows = [] := rfl
@[simp] theorem an_moist_Mean_loops : an_moist_Mean.loops = [] := rfl
@[simp] noncomputable def cl_moist_Mean : List (Nat × (List D → Option D)) := [(31, F_moist_Check)]
@[simp] noncomputable def c_moist_Mean (f : FuncId) (ds : List D) : Option D := callOf cl_moist_Mean f ds
noncomputable def F_moist_Mean (ds : List D) : Option D := runF Try.prog c_moist_Mean an_moist_Mean 13 (bodyOf Try.f35) [.tmp 2] ds
noncomputable def L_moist_Mean (i n : Nat) (s : St) : Option (E × St) := atN Try.prog c_moist_Mean an_moist_Mean 13 (bodyOf Try.f35) i n s
noncomputable def H_moist_Mean (n i : Nat) (s : St) : Option (E × St) := atH Try.prog c_moist_Mean an_moist_Mean 13 (bodyOf Try.f35) n i s
@[simp] theorem H_moist_Mean_eq (n i : Nat) (s : St) : H_moist_Mean n i s = L_moist_Mean i n (headOf (an_moist_Mean.loops.lookup i) s) := rfl
noncomputable def R_moist_Mean (i : Nat) (s : St) : Option (E × St) := stepL Try.prog c_moist_Mean an_moist_Mean 13 (bodyOf Try.f35) i s
theorem lok_moist_Mean : okLoops (bodyOf Try.f35) = true := by kernel_rfl
theorem F_moist_Mean_eq (ds : List D) : F_moist_Mean ds = runG Try.prog c_moist_Mean (H_moist_Mean bigL) an_moist_Mean 13 (bodyOf Try.f35) [.tmp 2] ds := runG_eq lok_moist_Mean _ ds
theorem C_moist_Mean (ds : List D) (r : D) (h : F_moist_Mean ds = some r) : Contract Try.prog 35 ds r := contract_of mix Try.func35 rfl (by kernel_rfl) (by kernel_rfl) (callOf_ok cl_moist_Mean ⟨C_moist_Check, trivial⟩) h
-- sawmill/moist.Gradient: loops []; state: params 0..0, then [1, 2]
attribute [simp] Try.f37
noncomputable def an_moist_Gradient : Ann := ⟨[1, 2], [5], [], [], [], some [2], []⟩
@[simp] theorem an_moist_Gradient_draws : an_moist_Gradient.draws = [] := rfl
@[simp] theorem an_moist_Gradient_exits : an_moist_Gradient.exits = [] := rfl
@[simp] theorem an_moist_Gradient_rets : an_moist_Gradient.rets = some [2] := rfl
@[simp] theorem an_moist_Gradient_keep : an_moist_Gradient.keep = [1, 2] := rfl
@[simp] theorem an_moist_Gradient_cond : an_moist_Gradient.cond = [5] := rfl
@[simp] theorem an_moist_Gradient_rows : an_moist_Gradient.rows = [] := rfl
@[simp] theorem an_moist_Gradient_loops : an_moist_Gradient.loops = [] := rfl
@[simp] noncomputable def cl_moist_Gradient : List (Nat × (List D → Option D)) := [(31, F_moist_Check)]
@[simp] noncomputable def c_moist_Gradient (f : FuncId) (ds : List D) : Option D := callOf cl_moist_Gradient f ds
noncomputable def F_moist_Gradient (ds : List D) : Option D := runF Try.prog c_moist_Gradient an_moist_Gradient 11 (bodyOf Try.f37) [.tmp 2] ds
noncomputable def L_moist_Gradient (i n : Nat) (s : St) : Option (E × St) := atN Try.prog c_moist_Gradient an_moist_Gradient 11 (bodyOf Try.f37) i n s
noncomputable def H_moist_Gradient (n i : Nat) (s : St) : Option (E × St) := atH Try.prog c_moist_Gradient an_moist_Gradient 11 (bodyOf Try.f37) n i s
@[simp] theorem H_moist_Gradient_eq (n i : Nat) (s : St) : H_moist_Gradient n i s = L_moist_Gradient i n (headOf (an_moist_Gradient.loops.lookup i) s) := rfl
noncomputable def R_moist_Gradient (i : Nat) (s : St) : Option (E × St) := stepL Try.prog c_moist_Gradient an_moist_Gradient 11 (bodyOf Try.f37) i s
theorem lok_moist_Gradient : okLoops (bodyOf Try.f37) = true := by kernel_rfl
theorem F_moist_Gradient_eq (ds : List D) : F_moist_Gradient ds = runG Try.prog c_moist_Gradient (H_moist_Gradient bigL) an_moist_Gradient 11 (bodyOf Try.f37) [.tmp 2] ds := runG_eq lok_moist_Gradient _ ds
theorem C_moist_Gradient (ds : List D) (r : D) (h : F_moist_Gradient ds = some r) : Contract Try.prog 37 ds r := contract_of mix Try.func37 rfl (by kernel_rfl) (by kernel_rfl) (callOf_ok cl_moist_Gradient ⟨C_moist_Check, trivial⟩) h
-- sawmill/moist.Checks: loops []; state: params 0..1, then [2, 3, 4]
attribute [simp] Try.f39
noncomputable def an_moist_Checks : Ann := ⟨[2, 3, 4], [12], [], [], [], some [4], []⟩
@[simp] theorem an_moist_Checks_draws : an_moist_Checks.draws = [] := rfl
@[simp] theorem an_moist_Checks_exits : an_moist_Checks.exits = [] := rfl
@[simp] theorem an_moist_Checks_rets : an_moist_Checks.rets = some [4] := rfl
@[simp] theorem an_moist_Checks_keep : an_moist_Checks.keep = [2, 3, 4] := rfl
@[simp] theorem an_moist_Checks_cond : an_moist_Checks.cond = [12] := rfl
@[simp] theorem an_moist_Checks_rows : an_moist_Checks.rows = [] := rfl
@[simp] theorem an_moist_Checks_loops : an_moist_Checks.loops = [] := rfl
@[simp] noncomputable def cl_moist_Checks : List (Nat × (List D → Option D)) := [(31, F_moist_Check)]
@[simp] noncomputable def c_moist_Checks (f : FuncId) (ds : List D) : Option D := callOf cl_moist_Checks f ds
noncomputable def F_moist_Checks (ds : List D) : Option D := runF Try.prog c_moist_Checks an_moist_Checks 18 (bodyOf Try.f39) [.tmp 4] ds
noncomputable def L_moist_Checks (i n : Nat) (s : St) : Option (E × St) := atN Try.prog c_moist_Checks an_moist_Checks 18 (bodyOf Try.f39) i n s
noncomputable def H_moist_Checks (n i : Nat) (s : St) : Option (E × St) := atH Try.prog c_moist_Checks an_moist_Checks 18 (bodyOf Try.f39) n i s
@[simp] theorem H_moist_Checks_eq (n i : Nat) (s : St) : H_moist_Checks n i s = L_moist_Checks i n (headOf (an_moist_Checks.loops.lookup i) s) := rfl
noncomputable def R_moist_Checks (i : Nat) (s : St) : Option (E × St) := stepL Try.prog c_moist_Checks an_moist_Checks 18 (bodyOf Try.f39) i s
theorem lok_moist_Checks : okLoops (bodyOf Try.f39) = true := by kernel_rfl
theorem F_moist_Checks_eq (ds : List D) : F_moist_Checks ds = runG Try.prog c_moist_Checks (H_moist_Checks bigL) an_moist_Checks 18 (bodyOf Try.f39) [.tmp 4] ds := runG_eq lok_moist_Checks _ ds
theorem C_moist_Checks (ds : List D) (r : D) (h : F_moist_Checks ds = some r) : Contract Try.prog 39 ds r := contract_of mix Try.func39 rfl (by kernel_rfl) (by kernel_rfl) (callOf_ok cl_moist_Checks ⟨C_moist_Check, trivial⟩) h
-- sawmill/sawmilllaw36.awake: loops []; state: params 0..-1, then [0, 1, 2, 3, 4]
attribute [simp] Try.f30
noncomputable def an_law36_awake : Ann := ⟨[0, 1, 2, 3, 4], [29], [], [], [], some [0], [(5, 6), (6, 14)]⟩
@[simp] theorem an_law36_awake_draws : an_law36_awake.draws = [(5, 6), (6, 14)] := rfl
@[simp] theorem an_law36_awake_exits : an_law36_awake.exits = [] := rfl
@[simp] theorem an_law36_awake_rets : an_law36_awake.rets = some [0] := rfl
@[simp] theorem an_law36_awake_keep : an_law36_awake.keep = [0, 1, 2, 3, 4] := rfl
@[simp] theorem an_law36_awake_cond : an_law36_awake.cond = [29] := rfl
@[simp] theorem an_law36_awake_rows : an_law36_awake.rows = [] := rfl
@[simp] theorem an_law36_awake_loops : an_law36_awake.loops = [] := rfl
@[simp] noncomputable def cl_law36_awake : List (Nat × (List D → Option D)) := [(28, F_law36_tick), (31, F_moist_Check), (33, F_moist_Green), (35, F_moist_Mean), (37, F_moist_Gradient), (39, F_moist_Checks), (56, F_law36_sample)]
@[simp] noncomputable def c_law36_awake (f : FuncId) (ds : List D) : Option D := callOf cl_law36_awake f ds
noncomputable def F_law36_awake (ds : List D) : Option D := runF Try.prog c_law36_awake an_law36_awake 55 (bodyOf Try.f30) [.tmp 0] ds
noncomputable def L_law36_awake (i n : Nat) (s : St) : Option (E × St) := atN Try.prog c_law36_awake an_law36_awake 55 (bodyOf Try.f30) i n s
noncomputable def H_law36_awake (n i : Nat) (s : St) : Option (E × St) := atH Try.prog c_law36_awake an_law36_awake 55 (bodyOf Try.f30) n i s
@[simp] theorem H_law36_awake_eq (n i : Nat) (s : St) : H_law36_awake n i s = L_law36_awake i n (headOf (an_law36_awake.loops.lookup i) s) := rfl
noncomputable def R_law36_awake (i : Nat) (s : St) : Option (E × St) := stepL Try.prog c_law36_awake an_law36_awake 55 (bodyOf Try.f30) i s
theorem lok_law36_awake : okLoops (bodyOf Try.f30) = true := by kernel_rfl
theorem F_law36_awake_eq (ds : List D) : F_law36_awake ds = runG Try.prog c_law36_awake (H_law36_awake bigL) an_law36_awake 55 (bodyOf Try.f30) [.tmp 0] ds := runG_eq lok_law36_awake _ ds
theorem C_law36_awake (ds : List D) (r : D) (h : F_law36_awake ds = some r) : Contract Try.prog 30 ds r := contract_of mix Try.func30 rfl (by kernel_rfl) (by kernel_rfl) (callOf_ok cl_law36_awake ⟨C_law36_tick, C_moist_Check, C_moist_Green, C_moist_Mean, C_moist_Gradient, C_moist_Checks, C_law36_sample, trivial⟩) h
-- sawmill/sawmilllaw36.MoistTicks: loops []; state: params 0..0, then [1, 2]
attribute [simp] Try.f9
noncomputable def an_law36_MoistTicks : Ann := ⟨[1, 2], [], [], [], [], some [2], [(1, 12)]⟩
@[simp] theorem an_law36_MoistTicks_draws : an_law36_MoistTicks.draws = [(1, 12)] := rfl
@[simp] theorem an_law36_MoistTicks_exits : an_law36_MoistTicks.exits = [] := rfl
@[simp] theorem an_law36_MoistTicks_rets : an_law36_MoistTicks.rets = some [2] := rfl
@[simp] theorem an_law36_MoistTicks_keep : an_law36_MoistTicks.keep = [1, 2] := rfl
@[simp] theorem an_law36_MoistTicks_cond : an_law36_MoistTicks.cond = [] := rfl
@[simp] theorem an_law36_MoistTicks_rows : an_law36_MoistTicks.rows = [] := rfl
@[simp] theorem an_law36_MoistTicks_loops : an_law36_MoistTicks.loops = [] := rfl
@[simp] noncomputable def cl_law36_MoistTicks : List (Nat × (List D → Option D)) := [(28, F_law36_tick), (29, F_ref36_Tick), (30, F_law36_awake)]
@[simp] noncomputable def c_law36_MoistTicks (f : FuncId) (ds : List D) : Option D := callOf cl_law36_MoistTicks f ds
noncomputable def F_law36_MoistTicks (ds : List D) : Option D := runF Try.prog c_law36_MoistTicks an_law36_MoistTicks 20 (bodyOf Try.f9) [.tmp 2] ds
noncomputable def L_law36_MoistTicks (i n : Nat) (s : St) : Option (E × St) := atN Try.prog c_law36_MoistTicks an_law36_MoistTicks 20 (bodyOf Try.f9) i n s
noncomputable def H_law36_MoistTicks (n i : Nat) (s : St) : Option (E × St) := atH Try.prog c_law36_MoistTicks an_law36_MoistTicks 20 (bodyOf Try.f9) n i s
@[simp] theorem H_law36_MoistTicks_eq (n i : Nat) (s : St) : H_law36_MoistTicks n i s = L_law36_MoistTicks i n (headOf (an_law36_MoistTicks.loops.lookup i) s) := rfl
noncomputable def R_law36_MoistTicks (i : Nat) (s : St) : Option (E × St) := stepL Try.prog c_law36_MoistTicks an_law36_MoistTicks 20 (bodyOf Try.f9) i s
theorem lok_law36_MoistTicks : okLoops (bodyOf Try.f9) = true := by kernel_rfl
theorem F_law36_MoistTicks_eq (ds : List D) : F_law36_MoistTicks ds = runG Try.prog c_law36_MoistTicks (H_law36_MoistTicks bigL) an_law36_MoistTicks 20 (bodyOf Try.f9) [.tmp 2] ds := runG_eq lok_law36_MoistTicks _ ds
theorem C_law36_MoistTicks (ds : List D) (r : D) (h : F_law36_MoistTicks ds = some r) : Contract Try.prog 9 ds r := contract_of mix Try.func9 rfl (by kernel_rfl) (by kernel_rfl) (callOf_ok cl_law36_MoistTicks ⟨C_law36_tick, C_ref36_Tick, C_law36_awake, trivial⟩) h
-- sawmill/sawmillref36.Green: loops []; state: params 0..0, then [1, 2]
attribute [simp] Try.f34
noncomputable def an_ref36_Green : Ann := ⟨[1, 2], [], [], [], [], some [2], []⟩
@[simp] theorem an_ref36_Green_draws : an_ref36_Green.draws = [] := rfl
@[simp] theorem an_ref36_Green_exits : an_ref36_Green.exits = [] := rfl
@[simp] theorem an_ref36_Green_rets : an_ref36_Green.rets = some [2] := rfl
@[simp] theorem an_ref36_Green_keep : an_ref36_Green.keep = [1, 2] := rfl
@[simp] theorem an_ref36_Green_cond : an_ref36_Green.cond = [] := rfl
@[simp] theorem an_ref36_Green_rows : an_ref36_Green.rows = [] := rfl
@[simp] theorem an_ref36_Green_loops : an_ref36_Green.loops = [] := rfl
@[simp] noncomputable def cl_ref36_Green : List (Nat × (List D → Option D)) := []
@[simp] noncomputable def c_ref36_Green (f : FuncId) (ds : List D) : Option D := callOf cl_ref36_Green f ds
noncomputable def F_ref36_Green (ds : List D) : Option D := runF Try.prog c_ref36_Green an_ref36_Green 8 (bodyOf Try.f34) [.cell 2 45] ds
noncomputable def L_ref36_Green (i n : Nat) (s : St) : Option (E × St) := atN Try.prog c_ref36_Green an_ref36_Green 8 (bodyOf Try.f34) i n s
noncomputable def H_ref36_Green (n i : Nat) (s : St) : Option (E × St) := atH Try.prog c_ref36_Green an_ref36_Green 8 (bodyOf Try.f34) n i s
@[simp] theorem H_ref36_Green_eq (n i : Nat) (s : St) : H_ref36_Green n i s = L_ref36_Green i n (headOf (an_ref36_Green.loops.lookup i) s) := rfl
noncomputable def R_ref36_Green (i : Nat) (s : St) : Option (E × St) := stepL Try.prog c_ref36_Green an_ref36_Green 8 (bodyOf Try.f34) i s
theorem lok_ref36_Green : okLoops (bodyOf Try.f34) = true := by kernel_rfl
theorem F_ref36_Green_eq (ds : List D) : F_ref36_Green ds = runG Try.prog c_ref36_Green (H_ref36_Green bigL) an_ref36_Green 8 (bodyOf Try.f34) [.cell 2 45] ds := runG_eq lok_ref36_Green _ ds
theorem C_ref36_Green (ds : List D) (r : D) (h : F_ref36_Green ds = some r) : Contract Try.prog 34 ds r := contract_of mix Try.func34 rfl (by kernel_rfl) (by kernel_rfl) (callOf_ok cl_ref36_Green trivial) h
-- sawmill/sawmillref36.Mean: loops []; state: params 0..0, then [1, 2]
attribute [simp] Try.f36
noncomputable def an_ref36_Mean : Ann := ⟨[1, 2], [5], [], [], [], some [2], []⟩
@[simp] theorem an_ref36_Mean_draws : an_ref36_Mean.draws = [] := rfl
@[simp] theorem an_ref36_Mean_exits : an_ref36_Mean.exits = [] := rfl
@[simp] theorem an_ref36_Mean_rets : an_ref36_Mean.rets = some [2] := rfl
@[simp] theorem an_ref36_Mean_keep : an_ref36_Mean.keep = [1, 2] := rfl
@[simp] theorem an_ref36_Mean_cond : an_ref36_Mean.cond = [5] := rfl
@[simp] theorem an_ref36_Mean_rows : an_ref36_Mean.rows = [] := rfl
@[simp] theorem an_ref36_Mean_loops : an_ref36_Mean.loops = [] := rfl
@[simp] noncomputable def cl_ref36_Mean : List (Nat × (List D → Option D)) := [(32, F_ref36_Check)]
@[simp] noncomputable def c_ref36_Mean (f : FuncId) (ds : List D) : Option D := callOf cl_ref36_Mean f ds
noncomputable def F_ref36_Mean (ds : List D) : Option D := runF Try.prog c_ref36_Mean an_ref36_Mean 13 (bodyOf Try.f36) [.tmp 2] ds
noncomputable def L_ref36_Mean (i n : Nat) (s : St) : Option (E × St) := atN Try.prog c_ref36_Mean an_ref36_Mean 13 (bodyOf Try.f36) i n s
noncomputable def H_ref36_Mean (n i : Nat) (s : St) : Option (E × St) := atH Try.prog c_ref36_Mean an_ref36_Mean 13 (bodyOf Try.f36) n i s
@[simp] theorem H_ref36_Mean_eq (n i : Nat) (s : St) : H_ref36_Mean n i s = L_ref36_Mean i n (headOf (an_ref36_Mean.loops.lookup i) s) := rfl
noncomputable def R_ref36_Mean (i : Nat) (s : St) : Option (E × St) := stepL Try.prog c_ref36_Mean an_ref36_Mean 13 (bodyOf Try.f36) i s
theorem lok_ref36_Mean : okLoops (bodyOf Try.f36) = true := by kernel_rfl
theorem F_ref36_Mean_eq (ds : List D) : F_ref36_Mean ds = runG Try.prog c_ref36_Mean (H_ref36_Mean bigL) an_ref36_Mean 13 (bodyOf Try.f36) [.tmp 2] ds := runG_eq lok_ref36_Mean _ ds
theorem C_ref36_Mean (ds : List D) (r : D) (h : F_ref36_Mean ds = some r) : Contract Try.prog 36 ds r := contract_of mix Try.func36 rfl (by kernel_rfl) (by kernel_rfl) (callOf_ok cl_ref36_Mean ⟨C_ref36_Check, trivial⟩) h
-- sawmill/sawmillref36.Gradient: loops []; state: params 0..0, then [1, 2]
attribute [simp] Try.f38
noncomputable def an_ref36_Gradient : Ann := ⟨[1, 2], [5], [], [], [], some [2], []⟩
@[simp] theorem an_ref36_Gradient_draws : an_ref36_Gradient.draws = [] := rfl
@[simp] theorem an_ref36_Gradient_exits : an_ref36_Gradient.exits = [] := rfl
@[simp] theorem an_ref36_Gradient_rets : an_ref36_Gradient.rets = some [2] := rfl
@[simp] theorem an_ref36_Gradient_keep : an_ref36_Gradient.keep = [1, 2] := rfl
@[simp] theorem an_ref36_Gradient_cond : an_ref36_Gradient.cond = [5] := rfl
@[simp] theorem an_ref36_Gradient_rows : an_ref36_Gradient.rows = [] := rfl
@[simp] theorem an_ref36_Gradient_loops : an_ref36_Gradient.loops = [] := rfl
@[simp] noncomputable def cl_ref36_Gradient : List (Nat × (List D → Option D)) := [(32, F_ref36_Check)]
@[simp] noncomputable def c_ref36_Gradient (f : FuncId) (ds : List D) : Option D := callOf cl_ref36_Gradient f ds
noncomputable def F_ref36_Gradient (ds : List D) : Option D := runF Try.prog c_ref36_Gradient an_ref36_Gradient 11 (bodyOf Try.f38) [.tmp 2] ds
noncomputable def L_ref36_Gradient (i n : Nat) (s : St) : Option (E × St) := atN Try.prog c_ref36_Gradient an_ref36_Gradient 11 (bodyOf Try.f38) i n s
noncomputable def H_ref36_Gradient (n i : Nat) (s : St) : Option (E × St) := atH Try.prog c_ref36_Gradient an_ref36_Gradient 11 (bodyOf Try.f38) n i s
@[simp] theorem H_ref36_Gradient_eq (n i : Nat) (s : St) : H_ref36_Gradient n i s = L_ref36_Gradient i n (headOf (an_ref36_Gradient.loops.lookup i) s) := rfl
noncomputable def R_ref36_Gradient (i : Nat) (s : St) : Option (E × St) := stepL Try.prog c_ref36_Gradient an_ref36_Gradient 11 (bodyOf Try.f38) i s
theorem lok_ref36_Gradient : okLoops (bodyOf Try.f38) = true := by kernel_rfl
theorem F_ref36_Gradient_eq (ds : List D) : F_ref36_Gradient ds = runG Try.prog c_ref36_Gradient (H_ref36_Gradient bigL) an_ref36_Gradient 11 (bodyOf Try.f38) [.tmp 2] ds := runG_eq lok_ref36_Gradient _ ds
theorem C_ref36_Gradient (ds : List D) (r : D) (h : F_ref36_Gradient ds = some r) : Contract Try.prog 38 ds r := contract_of mix Try.func38 rfl (by kernel_rfl) (by kernel_rfl) (callOf_ok cl_ref36_Gradient ⟨C_ref36_Check, trivial⟩) h
-- sawmill/sawmillref36.Checks: loops []; state: params 0..1, then [2, 3, 4]
attribute [simp] Try.f40
noncomputable def an_ref36_Checks : Ann := ⟨[2, 3, 4], [12], [], [], [], some [4], []⟩
@[simp] theorem an_ref36_Checks_draws : an_ref36_Checks.draws = [] := rfl
@[simp] theorem an_ref36_Checks_exits : an_ref36_Checks.exits = [] := rfl
@[simp] theorem an_ref36_Checks_rets : an_ref36_Checks.rets = some [4] := rfl
@[simp] theorem an_ref36_Checks_keep : an_ref36_Checks.keep = [2, 3, 4] := rfl
@[simp] theorem an_ref36_Checks_cond : an_ref36_Checks.cond = [12] := rfl
@[simp] theorem an_ref36_Checks_rows : an_ref36_Checks.rows = [] := rfl
@[simp] theorem an_ref36_Checks_loops : an_ref36_Checks.loops = [] := rfl
@[simp] noncomputable def cl_ref36_Checks : List (Nat × (List D → Option D)) := [(32, F_ref36_Check)]
@[simp] noncomputable def c_ref36_Checks (f : FuncId) (ds : List D) : Option D := callOf cl_ref36_Checks f ds
noncomputable def F_ref36_Checks (ds : List D) : Option D := runF Try.prog c_ref36_Checks an_ref36_Checks 18 (bodyOf Try.f40) [.tmp 4] ds
noncomputable def L_ref36_Checks (i n : Nat) (s : St) : Option (E × St) := atN Try.prog c_ref36_Checks an_ref36_Checks 18 (bodyOf Try.f40) i n s
noncomputable def H_ref36_Checks (n i : Nat) (s : St) : Option (E × St) := atH Try.prog c_ref36_Checks an_ref36_Checks 18 (bodyOf Try.f40) n i s
@[simp] theorem H_ref36_Checks_eq (n i : Nat) (s : St) : H_ref36_Checks n i s = L_ref36_Checks i n (headOf (an_ref36_Checks.loops.lookup i) s) := rfl
noncomputable def R_ref36_Checks (i : Nat) (s : St) : Option (E × St) := stepL Try.prog c_ref36_Checks an_ref36_Checks 18 (bodyOf Try.f40) i s
theorem lok_ref36_Checks : okLoops (bodyOf Try.f40) = true := by kernel_rfl
theorem F_ref36_Checks_eq (ds : List D) : F_ref36_Checks ds = runG Try.prog c_ref36_Checks (H_ref36_Checks bigL) an_ref36_Checks 18 (bodyOf Try.f40) [.tmp 4] ds := runG_eq lok_ref36_Checks _ ds
theorem C_ref36_Checks (ds : List D) (r : D) (h : F_ref36_Checks ds = some r) : Contract Try.prog 40 ds r := contract_of mix Try.func40 rfl (by kernel_rfl) (by kernel_rfl) (callOf_ok cl_ref36_Checks ⟨C_ref36_Check, trivial⟩) h
-- sawmill/sawmilllaw36.MoistMeans: loops []; state: params 0..1, then [2, 3, 4]
attribute [simp] Try.f10
noncomputable def an_law36_MoistMeans : Ann := ⟨[2, 3, 4], [], [], [], [], some [4], [(1, 32)]⟩
@[simp] theorem an_law36_MoistMeans_draws : an_law36_MoistMeans.draws = [(1, 32)] := rfl
@[simp] theorem an_law36_MoistMeans_exits : an_law36_MoistMeans.exits = [] := rfl
@[simp] theorem an_law36_MoistMeans_rets : an_law36_MoistMeans.rets = some [4] := rfl
@[simp] theorem an_law36_MoistMeans_keep : an_law36_MoistMeans.keep = [2, 3, 4] := rfl
@[simp] theorem an_law36_MoistMeans_cond : an_law36_MoistMeans.cond = [] := rfl
@[simp] theorem an_law36_MoistMeans_rows : an_law36_MoistMeans.rows = [] := rfl
@[simp] theorem an_law36_MoistMeans_loops : an_law36_MoistMeans.loops = [] := rfl
@[simp] noncomputable def cl_law36_MoistMeans : List (Nat × (List D → Option D)) := [(30, F_law36_awake), (31, F_moist_Check), (32, F_ref36_Check), (33, F_moist_Green), (34, F_ref36_Green), (35, F_moist_Mean), (36, F_ref36_Mean), (37, F_moist_Gradient), (38, F_ref36_Gradient), (39, F_moist_Checks), (40, F_ref36_Checks)]
@[simp] noncomputable def c_law36_MoistMeans (f : FuncId) (ds : List D) : Option D := callOf cl_law36_MoistMeans f ds
noncomputable def F_law36_MoistMeans (ds : List D) : Option D := runF Try.prog c_law36_MoistMeans an_law36_MoistMeans 43 (bodyOf Try.f10) [.tmp 4] ds
noncomputable def L_law36_MoistMeans (i n : Nat) (s : St) : Option (E × St) := atN Try.prog c_law36_MoistMeans an_law36_MoistMeans 43 (bodyOf Try.f10) i n s
noncomputable def H_law36_MoistMeans (n i : Nat) (s : St) : Option (E × St) := atH Try.prog c_law36_MoistMeans an_law36_MoistMeans 43 (bodyOf Try.f10) n i s
@[simp] theorem H_law36_MoistMeans_eq (n i : Nat) (s : St) : H_law36_MoistMeans n i s = L_law36_MoistMeans i n (headOf (an_law36_MoistMeans.loops.lookup i) s) := rfl
noncomputable def R_law36_MoistMeans (i : Nat) (s : St) : Option (E × St) := stepL Try.prog c_law36_MoistMeans an_law36_MoistMeans 43 (bodyOf Try.f10) i s
theorem lok_law36_MoistMeans : okLoops (bodyOf Try.f10) = true := by kernel_rfl
theorem F_law36_MoistMeans_eq (ds : List D) : F_law36_MoistMeans ds = runG Try.prog c_law36_MoistMeans (H_law36_MoistMeans bigL) an_law36_MoistMeans 43 (bodyOf Try.f10) [.tmp 4] ds := runG_eq lok_law36_MoistMeans _ ds
theorem C_law36_MoistMeans (ds : List D) (r : D) (h : F_law36_MoistMeans ds = some r) : Contract Try.prog 10 ds r := contract_of mix Try.func10 rfl (by kernel_rfl) (by kernel_rfl) (callOf_ok cl_law36_MoistMeans ⟨C_law36_awake, C_moist_Check, C_ref36_Check, C_moist_Green, C_ref36_Green, C_moist_Mean, C_ref36_Mean, C_moist_Gradient, C_ref36_Gradient, C_moist_Checks, C_ref36_Checks, trivial⟩) h
-- sawmill/sawmilllaw36.between: loops []; state: params 0..2, then [6]
attribute [simp] Try.f41
noncomputable def an_law36_between : Ann := ⟨[6], [], [], [], [], some [6], []⟩
@[simp] theorem an_law36_between_draws : an_law36_between.draws = [] := rfl
@[simp] theorem an_law36_between_exits : an_law36_between.exits = [] := rfl
@[simp] theorem an_law36_between_rets : an_law36_between.rets = some [6] := rfl
@[simp] theorem an_law36_between_keep : an_law36_between.keep = [6] := rfl
@[simp] theorem an_law36_between_cond : an_law36_between.cond = [] := rfl
@[simp] theorem an_law36_between_rows : an_law36_between.rows = [] := rfl
@[simp] theorem an_law36_between_loops : an_law36_between.loops = [] := rfl
@[simp] noncomputable def cl_law36_between : List (Nat × (List D → Option D)) := []
@[simp] noncomputable def c_law36_between (f : FuncId) (ds : List D) : Option D := callOf cl_law36_between f ds
noncomputable def F_law36_between (ds : List D) : Option D := runF Try.prog c_law36_between an_law36_between 25 (bodyOf Try.f41) [.tmp 6] ds
noncomputable def L_law36_between (i n : Nat) (s : St) : Option (E × St) := atN Try.prog c_law36_between an_law36_between 25 (bodyOf Try.f41) i n s
noncomputable def H_law36_between (n i : Nat) (s : St) : Option (E × St) := atH Try.prog c_law36_between an_law36_between 25 (bodyOf Try.f41) n i s
@[simp] theorem H_law36_between_eq (n i : Nat) (s : St) : H_law36_between n i s = L_law36_between i n (headOf (an_law36_between.loops.lookup i) s) := rfl
noncomputable def R_law36_between (i : Nat) (s : St) : Option (E × St) := stepL Try.prog c_law36_between an_law36_between 25 (bodyOf Try.f41) i s
theorem lok_law36_between : okLoops (bodyOf Try.f41) = true := by kernel_rfl
theorem F_law36_between_eq (ds : List D) : F_law36_between ds = runG Try.prog c_law36_between (H_law36_between bigL) an_law36_between 25 (bodyOf Try.f41) [.tmp 6] ds := runG_eq lok_law36_between _ ds
theorem C_law36_between (ds : List D) (r : D) (h : F_law36_between ds = some r) : Contract Try.prog 41 ds r := contract_of mix Try.func41 rfl (by kernel_rfl) (by kernel_rfl) (callOf_ok cl_law36_between trivial) h
-- sawmill/sawmilllaw36.MoistBounds: loops []; state: params 0..0, then [1, 2, 3]
attribute [simp] Try.f11
noncomputable def an_law36_MoistBounds : Ann := ⟨[1, 2, 3], [9, 38], [], [], [], some [2], [(6, 15)]⟩
@[simp] theorem an_law36_MoistBounds_draws : an_law36_MoistBounds.draws = [(6, 15)] := rfl
@[simp] theorem an_law36_MoistBounds_exits : an_law36_MoistBounds.exits = [] := rfl
@[simp] theorem an_law36_MoistBounds_rets : an_law36_MoistBounds.rets = some [2] := rfl
@[simp] theorem an_law36_MoistBounds_keep : an_law36_MoistBounds.keep = [1, 2, 3] := rfl
@[simp] theorem an_law36_MoistBounds_cond : an_law36_MoistBounds.cond = [9, 38] := rfl
@[simp] theorem an_law36_MoistBounds_rows : an_law36_MoistBounds.rows = [] := rfl
@[simp] theorem an_law36_MoistBounds_loops : an_law36_MoistBounds.loops = [] := rfl
@[simp] noncomputable def cl_law36_MoistBounds : List (Nat × (List D → Option D)) := [(21, F_air_Emc), (28, F_law36_tick), (30, F_law36_awake), (31, F_moist_Check), (41, F_law36_between)]
@[simp] noncomputable def c_law36_MoistBounds (f : FuncId) (ds : List D) : Option D := callOf cl_law36_MoistBounds f ds
noncomputable def F_law36_MoistBounds (ds : List D) : Option D := runF Try.prog c_law36_MoistBounds an_law36_MoistBounds 59 (bodyOf Try.f11) [.tmp 2] ds
noncomputable def L_law36_MoistBounds (i n : Nat) (s : St) : Option (E × St) := atN Try.prog c_law36_MoistBounds an_law36_MoistBounds 59 (bodyOf Try.f11) i n s
noncomputable def H_law36_MoistBounds (n i : Nat) (s : St) : Option (E × St) := atH Try.prog c_law36_MoistBounds an_law36_MoistBounds 59 (bodyOf Try.f11) n i s
@[simp] theorem H_law36_MoistBounds_eq (n i : Nat) (s : St) : H_law36_MoistBounds n i s = L_law36_MoistBounds i n (headOf (an_law36_MoistBounds.loops.lookup i) s) := rfl
noncomputable def R_law36_MoistBounds (i : Nat) (s : St) : Option (E × St) := stepL Try.prog c_law36_MoistBounds an_law36_MoistBounds 59 (bodyOf Try.f11) i s
theorem lok_law36_MoistBounds : okLoops (bodyOf Try.f11) = true := by kernel_rfl
theorem F_law36_MoistBounds_eq (ds : List D) : F_law36_MoistBounds ds = runG Try.prog c_law36_MoistBounds (H_law36_MoistBounds bigL) an_law36_MoistBounds 59 (bodyOf Try.f11) [.tmp 2] ds := runG_eq lok_law36_MoistBounds _ ds
theorem C_law36_MoistBounds (ds : List D) (r : D) (h : F_law36_MoistBounds ds = some r) : Contract Try.prog 11 ds r := contract_of mix Try.func11 rfl (by kernel_rfl) (by kernel_rfl) (callOf_ok cl_law36_MoistBounds ⟨C_air_Emc, C_law36_tick, C_law36_awake, C_moist_Check, C_law36_between, trivial⟩) h
-- sawmill/sawmilllaw36.size: loops []; state: params 0..0, then [2]
attribute [simp] Try.f42
noncomputable def an_law36_size : Ann := ⟨[2], [], [], [], [], some [2], []⟩
@[simp] theorem an_law36_size_draws : an_law36_size.draws = [] := rfl
@[simp] theorem an_law36_size_exits : an_law36_size.exits = [] := rfl
@[simp] theorem an_law36_size_rets : an_law36_size.rets = some [2] := rfl
@[simp] theorem an_law36_size_keep : an_law36_size.keep = [2] := rfl
@[simp] theorem an_law36_size_cond : an_law36_size.cond = [] := rfl
@[simp] theorem an_law36_size_rows : an_law36_size.rows = [] := rfl
@[simp] theorem an_law36_size_loops : an_law36_size.loops = [] := rfl
@[simp] noncomputable def cl_law36_size : List (Nat × (List D → Option D)) := []
@[simp] noncomputable def c_law36_size (f : FuncId) (ds : List D) : Option D := callOf cl_law36_size f ds
noncomputable def F_law36_size (ds : List D) : Option D := runF Try.prog c_law36_size an_law36_size 7 (bodyOf Try.f42) [.tmp 2] ds
noncomputable def L_law36_size (i n : Nat) (s : St) : Option (E × St) := atN Try.prog c_law36_size an_law36_size 7 (bodyOf Try.f42) i n s
noncomputable def H_law36_size (n i : Nat) (s : St) : Option (E × St) := atH Try.prog c_law36_size an_law36_size 7 (bodyOf Try.f42) n i s
@[simp] theorem H_law36_size_eq (n i : Nat) (s : St) : H_law36_size n i s = L_law36_size i n (headOf (an_law36_size.loops.lookup i) s) := rfl
noncomputable def R_law36_size (i : Nat) (s : St) : Option (E × St) := stepL Try.prog c_law36_size an_law36_size 7 (bodyOf Try.f42) i s
theorem lok_law36_size : okLoops (bodyOf Try.f42) = true := by kernel_rfl
theorem F_law36_size_eq (ds : List D) : F_law36_size ds = runG Try.prog c_law36_size (H_law36_size bigL) an_law36_size 7 (bodyOf Try.f42) [.tmp 2] ds := runG_eq lok_law36_size _ ds
theorem C_law36_size (ds : List D) (r : D) (h : F_law36_size ds = some r) : Contract Try.prog 42 ds r := contract_of mix Try.func42 rfl (by kernel_rfl) (by kernel_rfl) (callOf_ok cl_law36_size trivial) h
-- sawmill/sawmilllaw36.MoistFans: loops []; state: params 0..0, then [1, 2, 3, 4]
attribute [simp] Try.f12
noncomputable def an_law36_MoistFans : Ann := ⟨[1, 2, 3, 4], [24], [], [], [], some [2], [(4, 12), (7, 5), (8, 4)]⟩
@[simp] theorem an_law36_MoistFans_draws : an_law36_MoistFans.draws = [(4, 12), (7, 5), (8, 4)] := rfl
@[simp] theorem an_law36_MoistFans_exits : an_law36_MoistFans.exits = [] := rfl
@[simp] theorem an_law36_MoistFans_rets : an_law36_MoistFans.rets = some [2] := rfl
@[simp] theorem an_law36_MoistFans_keep : an_law36_MoistFans.keep = [1, 2, 3, 4] := rfl
@[simp] theorem an_law36_MoistFans_cond : an_law36_MoistFans.cond = [24] := rfl
@[simp] theorem an_law36_MoistFans_rows : an_law36_MoistFans.rows = [] := rfl
@[simp] theorem an_law36_MoistFans_loops : an_law36_MoistFans.loops = [] := rfl
@[simp] noncomputable def cl_law36_MoistFans : List (Nat × (List D → Option D)) := [(21, F_air_Emc), (28, F_law36_tick), (30, F_law36_awake), (37, F_moist_Gradient), (42, F_law36_size)]
@[simp] noncomputable def c_law36_MoistFans (f : FuncId) (ds : List D) : Option D := callOf cl_law36_MoistFans f ds
noncomputable def F_law36_MoistFans (ds : List D) : Option D := runF Try.prog c_law36_MoistFans an_law36_MoistFans 44 (bodyOf Try.f12) [.tmp 2] ds
noncomputable def L_law36_MoistFans (i n : Nat) (s : St) : Option (E × St) := atN Try.prog c_law36_MoistFans an_law36_MoistFans 44 (bodyOf Try.f12) i n s
noncomputable def H_law36_MoistFans (n i : Nat) (s : St) : Option (E × St) := atH Try.prog c_law36_MoistFans an_law36_MoistFans 44 (bodyOf Try.f12) n i s
@[simp] theorem H_law36_MoistFans_eq (n i : Nat) (s : St) : H_law36_MoistFans n i s = L_law36_MoistFans i n (headOf (an_law36_MoistFans.loops.lookup i) s) := rfl
noncomputable def R_law36_MoistFans (i : Nat) (s : St) : Option (E × St) := stepL Try.prog c_law36_MoistFans an_law36_MoistFans 44 (bodyOf Try.f12) i s
theorem lok_law36_MoistFans : okLoops (bodyOf Try.f12) = true := by kernel_rfl
theorem F_law36_MoistFans_eq (ds : List D) : F_law36_MoistFans ds = runG Try.prog c_law36_MoistFans (H_law36_MoistFans bigL) an_law36_MoistFans 44 (bodyOf Try.f12) [.tmp 2] ds := runG_eq lok_law36_MoistFans _ ds
theorem C_law36_MoistFans (ds : List D) (r : D) (h : F_law36_MoistFans ds = some r) : Contract Try.prog 12 ds r := contract_of mix Try.func12 rfl (by kernel_rfl) (by kernel_rfl) (callOf_ok cl_law36_MoistFans ⟨C_air_Emc, C_law36_tick, C_law36_awake, C_moist_Gradient, C_law36_size, trivial⟩) h
-- sawmill/sawmilllaw36.MoistThick: loops []; state: params 0..1, then [2, 4, 5, 6, 7]
attribute [simp] Try.f13
noncomputable def an_law36_MoistThick : Ann := ⟨[1, 2, 4, 5, 6, 7], [25], [], [], [], some [4], [(5, 6), (6, 10)]⟩
@[simp] theorem an_law36_MoistThick_draws : an_law36_MoistThick.draws = [(5, 6), (6, 10)] := rfl
@[simp] theorem an_law36_MoistThick_exits : an_law36_MoistThick.exits = [] := rfl
@[simp] theorem an_law36_MoistThick_rets : an_law36_MoistThick.rets = some [4] := rfl
@[simp] theorem an_law36_MoistThick_keep : an_law36_MoistThick.keep = [1, 2, 4, 5, 6, 7] := rfl
@[simp] theorem an_law36_MoistThick_cond : an_law36_MoistThick.cond = [25] := rfl
@[simp] theorem an_law36_MoistThick_rows : an_law36_MoistThick.rows = [] := rfl
@[simp] theorem an_law36_MoistThick_loops : an_law36_MoistThick.loops = [] := rfl
@[simp] noncomputable def cl_law36_MoistThick : List (Nat × (List D → Option D)) := [(28, F_law36_tick), (30, F_law36_awake), (37, F_moist_Gradient), (42, F_law36_size)]
@[simp] noncomputable def c_law36_MoistThick (f : FuncId) (ds : List D) : Option D := callOf cl_law36_MoistThick f ds
noncomputable def F_law36_MoistThick (ds : List D) : Option D := runF Try.prog c_law36_MoistThick an_law36_MoistThick 54 (bodyOf Try.f13) [.tmp 4] ds
noncomputable def L_law36_MoistThick (i n : Nat) (s : St) : Option (E × St) := atN Try.prog c_law36_MoistThick an_law36_MoistThick 54 (bodyOf Try.f13) i n s
noncomputable def H_law36_MoistThick (n i : Nat) (s : St) : Option (E × St) := atH Try.prog c_law36_MoistThick an_law36_MoistThick 54 (bodyOf Try.f13) n i s
@[simp] theorem H_law36_MoistThick_eq (n i : Nat) (s : St) : H_law36_MoistThick n i s = L_law36_MoistThick i n (headOf (an_law36_MoistThick.loops.lookup i) s) := rfl
noncomputable def R_law36_MoistThick (i : Nat) (s : St) : Option (E × St) := stepL Try.prog c_law36_MoistThick an_law36_MoistThick 54 (bodyOf Try.f13) i s
theorem lok_law36_MoistThick : okLoops (bodyOf Try.f13) = true := by kernel_rfl
theorem F_law36_MoistThick_eq (ds : List D) : F_law36_MoistThick ds = runG Try.prog c_law36_MoistThick (H_law36_MoistThick bigL) an_law36_MoistThick 54 (bodyOf Try.f13) [.tmp 4] ds := runG_eq lok_law36_MoistThick _ ds
theorem C_law36_MoistThick (ds : List D) (r : D) (h : F_law36_MoistThick ds = some r) : Contract Try.prog 13 ds r := contract_of mix Try.func13 rfl (by kernel_rfl) (by kernel_rfl) (callOf_ok cl_law36_MoistThick ⟨C_law36_tick, C_law36_awake, C_moist_Gradient, C_law36_size, trivial⟩) h
-- sawmill/sawmilllaw36.MoistSums: loops []; state: params 0..0, then [1, 2, 3, 4]
attribute [simp] Try.f14
noncomputable def an_law36_MoistSums : Ann := ⟨[1, 2, 3, 4], [10, 39, 77, 93], [], [], [], some [2], [(4, 6), (11, 14)]⟩
@[simp] theorem an_law36_MoistSums_draws : an_law36_MoistSums.draws = [(4, 6), (11, 14)] := rfl
@[simp] theorem an_law36_MoistSums_exits : an_law36_MoistSums.exits = [] := rfl
@[simp] theorem an_law36_MoistSums_rets : an_law36_MoistSums.rets = some [2] := rfl
@[simp] theorem an_law36_MoistSums_keep : an_law36_MoistSums.keep = [1, 2, 3, 4] := rfl
@[simp] theorem an_law36_MoistSums_cond : an_law36_MoistSums.cond = [10, 39, 77, 93] := rfl
@[simp] theorem an_law36_MoistSums_rows : an_law36_MoistSums.rows = [] := rfl
@[simp] theorem an_law36_MoistSums_loops : an_law36_MoistSums.loops = [] := rfl
@[simp] noncomputable def cl_law36_MoistSums : List (Nat × (List D → Option D)) := [(28, F_law36_tick), (30, F_law36_awake), (31, F_moist_Check), (35, F_moist_Mean), (37, F_moist_Gradient), (39, F_moist_Checks), (41, F_law36_between)]
@[simp] noncomputable def c_law36_MoistSums (f : FuncId) (ds : List D) : Option D := callOf cl_law36_MoistSums f ds
noncomputable def F_law36_MoistSums (ds : List D) : Option D := runF Try.prog c_law36_MoistSums an_law36_MoistSums 113 (bodyOf Try.f14) [.tmp 2] ds
noncomputable def L_law36_MoistSums (i n : Nat) (s : St) : Option (E × St) := atN Try.prog c_law36_MoistSums an_law36_MoistSums 113 (bodyOf Try.f14) i n s
noncomputable def H_law36_MoistSums (n i : Nat) (s : St) : Option (E × St) := atH Try.prog c_law36_MoistSums an_law36_MoistSums 113 (bodyOf Try.f14) n i s
@[simp] theorem H_law36_MoistSums_eq (n i : Nat) (s : St) : H_law36_MoistSums n i s = L_law36_MoistSums i n (headOf (an_law36_MoistSums.loops.lookup i) s) := rfl
noncomputable def R_law36_MoistSums (i : Nat) (s : St) : Option (E × St) := stepL Try.prog c_law36_MoistSums an_law36_MoistSums 113 (bodyOf Try.f14) i s
theorem lok_law36_MoistSums : okLoops (bodyOf Try.f14) = true := by kernel_rfl
theorem F_law36_MoistSums_eq (ds : List D) : F_law36_MoistSums ds = runG Try.prog c_law36_MoistSums (H_law36_MoistSums bigL) an_law36_MoistSums 113 (bodyOf Try.f14) [.tmp 2] ds := runG_eq lok_law36_MoistSums _ ds
theorem C_law36_MoistSums (ds : List D) (r : D) (h : F_law36_MoistSums ds = some r) : Contract Try.prog 14 ds r := contract_of mix Try.func14 rfl (by kernel_rfl) (by kernel_rfl) (callOf_ok cl_law36_MoistSums ⟨C_law36_tick, C_law36_awake, C_moist_Check, C_moist_Mean, C_moist_Gradient, C_moist_Checks, C_law36_between, trivial⟩) h
end Go.Proofs.Ytmnipfincjpofaa
