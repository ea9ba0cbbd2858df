/-
  Printed by gen.py for this seat: facts about the types that the laws reach; for each function its annotation (what is kept behind a region, which rows are a variable's own, what is alive at the head of a loop), its abstract run, and that the run is its contract.
-/
import Derived.Test.YtcgghmmljpikdaaAbsT
import Derived.Test.YtcgghmmljpikdaaRows
namespace Go.Proofs.Ytcgghmmljpikdaa
open Go Go.Abs
set_option maxRecDepth 100000
set_option linter.unusedSimpArgs false
set_option linter.unusedVariables false
theorem mix : Try.prog.follows .mixedOrders = true := by kernel_rfl
theorem laid : laidOutB Try.prog = true := by kernel_rfl
-- 0 ()
attribute [simp] Try.underlying0
@[simp] theorem sz0 : szT Try.prog 0 = some 1 := by kernel_rfl
@[simp] theorem co0 : Try.prog.cellsOf 0 = 1 := by kernel_rfl
@[simp] theorem ag0 : aggT Try.prog 0 = some false := by kernel_rfl
-- 1 func()
attribute [simp] Try.underlying1
@[simp] theorem sz1 : szT Try.prog 1 = some 1 := by kernel_rfl
@[simp] theorem co1 : Try.prog.cellsOf 1 = 1 := by kernel_rfl
@[simp] theorem ag1 : aggT Try.prog 1 = some false := by kernel_rfl
@[simp] theorem zr1 : zeroD Try.prog 1 = some [.x .nilFunc] := by kernel_rfl
-- 2 int64
attribute [simp] Try.underlying2
@[simp] theorem sz2 : szT Try.prog 2 = some 1 := by kernel_rfl
@[simp] theorem co2 : Try.prog.cellsOf 2 = 1 := by kernel_rfl
@[simp] theorem ag2 : aggT Try.prog 2 = some false := by kernel_rfl
@[simp] theorem zr2 : zeroD Try.prog 2 = some [.x (.int .i64 0)] := by kernel_rfl
-- 3 int
attribute [simp] Try.underlying3
@[simp] theorem sz3 : szT Try.prog 3 = some 1 := by kernel_rfl
@[simp] theorem co3 : Try.prog.cellsOf 3 = 1 := by kernel_rfl
@[simp] theorem ag3 : aggT Try.prog 3 = some false := by kernel_rfl
@[simp] theorem zr3 : zeroD Try.prog 3 = some [.x (.int .i64 0)] := by kernel_rfl
-- 4 bool
attribute [simp] Try.underlying4
@[simp] theorem sz4 : szT Try.prog 4 = some 1 := by kernel_rfl
@[simp] theorem co4 : Try.prog.cellsOf 4 = 1 := by kernel_rfl
@[simp] theorem ag4 : aggT Try.prog 4 = some false := by kernel_rfl
@[simp] theorem zr4 : zeroD Try.prog 4 = some [.x (.bool false)] := by kernel_rfl
-- 22 []api.Point
attribute [simp] Try.underlying22
@[simp] theorem sz22 : szT Try.prog 22 = some 1 := by kernel_rfl
@[simp] theorem co22 : Try.prog.cellsOf 22 = 1 := by kernel_rfl
@[simp] theorem ag22 : aggT Try.prog 22 = some false := by kernel_rfl
@[simp] theorem zr22 : zeroD Try.prog 22 = some [.emp] := by kernel_rfl
@[simp] theorem mk22 : mkT Try.prog 22 = some (40, 2, 16, [.x (.int .i64 0), .x (.int .i64 0)]) := by kernel_rfl
@[simp] theorem ap22 : appT Try.prog 22 = some (40, 2, 16) := by kernel_rfl
-- 25 api.Errno
attribute [simp] Try.underlying25
@[simp] theorem sz25 : szT Try.prog 25 = some 1 := by kernel_rfl
@[simp] theorem co25 : Try.prog.cellsOf 25 = 1 := by kernel_rfl
@[simp] theorem ag25 : aggT Try.prog 25 = some false := by kernel_rfl
@[simp] theorem zr25 : zeroD Try.prog 25 = some [.x (.int .i64 0)] := by kernel_rfl
-- 29 (int, bool)
attribute [simp] Try.underlying29
@[simp] theorem sz29 : szT Try.prog 29 = some 1 := by kernel_rfl
@[simp] theorem co29 : Try.prog.cellsOf 29 = 1 := by kernel_rfl
@[simp] theorem ag29 : aggT Try.prog 29 = some false := by kernel_rfl
-- 31 []int
attribute [simp] Try.underlying31
@[simp] theorem sz31 : szT Try.prog 31 = some 1 := by kernel_rfl
@[simp] theorem co31 : Try.prog.cellsOf 31 = 1 := by kernel_rfl
@[simp] theorem ag31 : aggT Try.prog 31 = some false := by kernel_rfl
@[simp] theorem zr31 : zeroD Try.prog 31 = some [.emp] := by kernel_rfl
@[simp] theorem mk31 : mkT Try.prog 31 = some (3, 1, 8, [.x (.int .i64 0)]) := by kernel_rfl
@[simp] theorem ap31 : appT Try.prog 31 = some (3, 1, 8) := by kernel_rfl
-- 32 [][]int
attribute [simp] Try.underlying32
@[simp] theorem sz32 : szT Try.prog 32 = some 1 := by kernel_rfl
@[simp] theorem co32 : Try.prog.cellsOf 32 = 1 := by kernel_rfl
@[simp] theorem ag32 : aggT Try.prog 32 = some false := by kernel_rfl
@[simp] theorem zr32 : zeroD Try.prog 32 = some [.emp] := by kernel_rfl
@[simp] theorem mk32 : mkT Try.prog 32 = some (31, 1, 24, [.emp]) := by kernel_rfl
@[simp] theorem ap32 : appT Try.prog 32 = some (31, 1, 24) := by kernel_rfl
-- 34 api.Grid
attribute [simp] Try.underlying34
@[simp] theorem sz34 : szT Try.prog 34 = some 3 := by kernel_rfl
@[simp] theorem co34 : Try.prog.cellsOf 34 = 3 := by kernel_rfl
@[simp] theorem ag34 : aggT Try.prog 34 = some true := by kernel_rfl
@[simp] theorem zr34 : zeroD Try.prog 34 = some [.emp, .emp, .emp] := by kernel_rfl
@[simp] theorem bt34 : buildT Try.prog 34 = some ([(0, 1), (1, 1), (2, 1)], [.emp, .emp, .emp]) := by kernel_rfl
@[simp] theorem st34 : Try.prog.stoodInHeld 34 = false := by kernel_rfl
@[simp] theorem eg34 : Try.prog.eqGuardType Try.prog.depth 34 = false := by kernel_rfl
-- 40 api.Point
attribute [simp] Try.underlying40
@[simp] theorem sz40 : szT Try.prog 40 = some 2 := by kernel_rfl
@[simp] theorem co40 : Try.prog.cellsOf 40 = 2 := by kernel_rfl
@[simp] theorem ag40 : aggT Try.prog 40 = some true := by kernel_rfl
@[simp] theorem zr40 : zeroD Try.prog 40 = some [.x (.int .i64 0), .x (.int .i64 0)] := by kernel_rfl
@[simp] theorem bt40 : buildT Try.prog 40 = some ([(0, 1), (1, 1)], [.x (.int .i64 0), .x (.int .i64 0)]) := by kernel_rfl
@[simp] theorem st40 : Try.prog.stoodInHeld 40 = false := by kernel_rfl
@[simp] theorem eg40 : Try.prog.eqGuardType Try.prog.depth 40 = false := by kernel_rfl
-- 46 [16]int
attribute [simp] Try.underlying46
@[simp] theorem sz46 : szT Try.prog 46 = some 16 := by kernel_rfl
@[simp] theorem co46 : Try.prog.cellsOf 46 = 16 := by kernel_rfl
@[simp] theorem ag46 : aggT Try.prog 46 = some true := by kernel_rfl
@[simp] theorem zr46 : zeroD Try.prog 46 = some [.x (.int .i64 0), .x (.int .i64 0), .x (.int .i64 0), .x (.int .i64 0), .x (.int .i64 0), .x (.int .i64 0), .x (.int .i64 0), .x (.int .i64 0), .x (.int .i64 0), .x (.int .i64 0), .x (.int .i64 0), .x (.int .i64 0), .x (.int .i64 0), .x (.int .i64 0), .x (.int .i64 0), .x (.int .i64 0)] := by kernel_rfl
@[simp] theorem bt46 : buildT Try.prog 46 = some ([(0, 1), (1, 1), (2, 1), (3, 1), (4, 1), (5, 1), (6, 1), (7, 1), (8, 1), (9, 1), (10, 1), (11, 1), (12, 1), (13, 1), (14, 1), (15, 1)], [.x (.int .i64 0), .x (.int .i64 0), .x (.int .i64 0), .x (.int .i64 0), .x (.int .i64 0), .x (.int .i64 0), .x (.int .i64 0), .x (.int .i64 0), .x (.int .i64 0), .x (.int .i64 0), .x (.int .i64 0), .x (.int .i64 0), .x (.int .i64 0), .x (.int .i64 0), .x (.int .i64 0), .x (.int .i64 0)]) := by kernel_rfl
-- sawmill/sawmilllaw08.small: loops []; state: params 0..0, then [2]
attribute [simp] Try.f11
noncomputable def an_law08_small : Ann := ⟨[2], [], [], [], [], some [2], []⟩
@[simp] theorem an_law08_small_draws : an_law08_small.draws = [] := rfl
@[simp] theorem an_law08_small_exits : an_law08_small.exits = [] := rfl
@[simp] theorem an_law08_small_rets : an_law08_small.rets = some [2] := rfl
@[simp] theorem an_law08_small_keep : an_law08_small.keep = [2] := rfl
@[simp] theorem an_law08_small_cond : an_law08_small.cond = [] := rfl
@[simp] theorem an_law08_small_rows : an_law08_small.rows = [] := rfl
@[simp] theorem an_law08_small_loops : an_law08_small.loops = [] := rfl
@[simp] noncomputable def cl_law08_small : List (Nat × (List D → Option D)) := []
@[simp] noncomputable def c_law08_small (f : FuncId) (ds : List D) : Option D := callOf cl_law08_small f ds
noncomputable def F_law08_small (ds : List D) : Option D := runF Try.prog c_law08_small an_law08_small 6 (bodyOf Try.f11) [.tmp 2] ds
noncomputable def L_law08_small (i n : Nat) (s : St) : Option (E × St) := atN Try.prog c_law08_small an_law08_small 6 (bodyOf Try.f11) i n s
noncomputable def H_law08_small (n i : Nat) (s : St) : Option (E × St) := atH Try.prog c_law08_small an_law08_small 6 (bodyOf Try.f11) n i s
@[simp] theorem H_law08_small_eq (n i : Nat) (s : St) : H_law08_small n i s = L_law08_small i n (headOf (an_law08_small.loops.lookup i) s) := rfl
noncomputable def R_law08_small (i : Nat) (s : St) : Option (E × St) := stepL Try.prog c_law08_small an_law08_small 6 (bodyOf Try.f11) i s
theorem lok_law08_small : okLoops (bodyOf Try.f11) = true := by kernel_rfl
theorem F_law08_small_eq (ds : List D) : F_law08_small ds = runG Try.prog c_law08_small (H_law08_small bigL) an_law08_small 6 (bodyOf Try.f11) [.tmp 2] ds := runG_eq lok_law08_small _ ds
theorem C_law08_small (ds : List D) (r : D) (h : F_law08_small ds = some r) : Contract Try.prog 11 ds r := contract_of mix Try.func11 rfl (by kernel_rfl) (by kernel_rfl) (callOf_ok cl_law08_small trivial) h
-- sawmill/curve.inRange: loops []; state: params 0..0, then [2]
attribute [simp] Try.f26
noncomputable def an_curve_inRange : Ann := ⟨[2], [], [], [], [], some [2], []⟩
@[simp] theorem an_curve_inRange_draws : an_curve_inRange.draws = [] := rfl
@[simp] theorem an_curve_inRange_exits : an_curve_inRange.exits = [] := rfl
@[simp] theorem an_curve_inRange_rets : an_curve_inRange.rets = some [2] := rfl
@[simp] theorem an_curve_inRange_keep : an_curve_inRange.keep = [2] := rfl
@[simp] theorem an_curve_inRange_cond : an_curve_inRange.cond = [] := rfl
@[simp] theorem an_curve_inRange_rows : an_curve_inRange.rows = [] := rfl
@[simp] theorem an_curve_inRange_loops : an_curve_inRange.loops = [] := rfl
@[simp] noncomputable def cl_curve_inRange : List (Nat × (List D → Option D)) := []
@[simp] noncomputable def c_curve_inRange (f : FuncId) (ds : List D) : Option D := callOf cl_curve_inRange f ds
noncomputable def F_curve_inRange (ds : List D) : Option D := runF Try.prog c_curve_inRange an_curve_inRange 9 (bodyOf Try.f26) [.tmp 2] ds
noncomputable def L_curve_inRange (i n : Nat) (s : St) : Option (E × St) := atN Try.prog c_curve_inRange an_curve_inRange 9 (bodyOf Try.f26) i n s
noncomputable def H_curve_inRange (n i : Nat) (s : St) : Option (E × St) := atH Try.prog c_curve_inRange an_curve_inRange 9 (bodyOf Try.f26) n i s
@[simp] theorem H_curve_inRange_eq (n i : Nat) (s : St) : H_curve_inRange n i s = L_curve_inRange i n (headOf (an_curve_inRange.loops.lookup i) s) := rfl
noncomputable def R_curve_inRange (i : Nat) (s : St) : Option (E × St) := stepL Try.prog c_curve_inRange an_curve_inRange 9 (bodyOf Try.f26) i s
theorem lok_curve_inRange : okLoops (bodyOf Try.f26) = true := by kernel_rfl
theorem F_curve_inRange_eq (ds : List D) : F_curve_inRange ds = runG Try.prog c_curve_inRange (H_curve_inRange bigL) an_curve_inRange 9 (bodyOf Try.f26) [.tmp 2] ds := runG_eq lok_curve_inRange _ ds
theorem C_curve_inRange (ds : List D) (r : D) (h : F_curve_inRange ds = some r) : Contract Try.prog 26 ds r := contract_of mix Try.func26 rfl (by kernel_rfl) (by kernel_rfl) (callOf_ok cl_curve_inRange trivial) h
-- sawmill/curve.Check: loops [6]; state: params 0..0, then [2, 3, 4, 11, 12, 13]
attribute [simp] Try.f13
noncomputable def an_curve_Check : Ann := ⟨[0, 2, 3, 4, 11, 12, 13], [7, 10, 14, 27, 40], [], [(6, [0, 11, 12, 13])], [(0, []), (1, [0, 11, 12, 13])], some [2], [(10, 11)]⟩
@[simp] theorem an_curve_Check_draws : an_curve_Check.draws = [(10, 11)] := rfl
@[simp] theorem an_curve_Check_exits : an_curve_Check.exits = [(0, []), (1, [0, 11, 12, 13])] := rfl
@[simp] theorem an_curve_Check_rets : an_curve_Check.rets = some [2] := rfl
@[simp] theorem an_curve_Check_keep : an_curve_Check.keep = [0, 2, 3, 4, 11, 12, 13] := rfl
@[simp] theorem an_curve_Check_cond : an_curve_Check.cond = [7, 10, 14, 27, 40] := rfl
@[simp] theorem an_curve_Check_rows : an_curve_Check.rows = [] := rfl
@[simp] theorem an_curve_Check_loops : an_curve_Check.loops = [(6, [0, 11, 12, 13])] := rfl
@[simp] noncomputable def cl_curve_Check : List (Nat × (List D → Option D)) := [(26, F_curve_inRange)]
@[simp] noncomputable def c_curve_Check (f : FuncId) (ds : List D) : Option D := callOf cl_curve_Check f ds
noncomputable def F_curve_Check (ds : List D) : Option D := runF Try.prog c_curve_Check an_curve_Check 42 (bodyOf Try.f13) [.tmp 2] ds
noncomputable def L_curve_Check (i n : Nat) (s : St) : Option (E × St) := atN Try.prog c_curve_Check an_curve_Check 42 (bodyOf Try.f13) i n s
noncomputable def H_curve_Check (n i : Nat) (s : St) : Option (E × St) := atH Try.prog c_curve_Check an_curve_Check 42 (bodyOf Try.f13) n i s
@[simp] theorem H_curve_Check_eq (n i : Nat) (s : St) : H_curve_Check n i s = L_curve_Check i n (headOf (an_curve_Check.loops.lookup i) s) := rfl
noncomputable def R_curve_Check (i : Nat) (s : St) : Option (E × St) := stepL Try.prog c_curve_Check an_curve_Check 42 (bodyOf Try.f13) i s
theorem lok_curve_Check : okLoops (bodyOf Try.f13) = true := by kernel_rfl
theorem L_curve_Check_zero (i : Nat) (s : St) : L_curve_Check i 0 s = none := rfl
theorem L_curve_Check_succ (i n : Nat) (s : St) : L_curve_Check i (n + 1) s = andThen (R_curve_Check i s) (H_curve_Check n i) := atN_succ lok_curve_Check i n s
theorem R_curve_Check_eq (i : Nat) (s : St) : R_curve_Check i s = runS Try.prog c_curve_Check (H_curve_Check bigL) an_curve_Check 42 (loopAt (bodyOf Try.f13) i) s := rfl
theorem F_curve_Check_eq (ds : List D) : F_curve_Check ds = runG Try.prog c_curve_Check (H_curve_Check bigL) an_curve_Check 42 (bodyOf Try.f13) [.tmp 2] ds := runG_eq lok_curve_Check _ ds
theorem C_curve_Check (ds : List D) (r : D) (h : F_curve_Check ds = some r) : Contract Try.prog 13 ds r := contract_of mix Try.func13 rfl (by kernel_rfl) (by kernel_rfl) (callOf_ok cl_curve_Check ⟨C_curve_inRange, trivial⟩) h
-- sawmill/curve.Reach: loops [6]; state: params 0..1, then [4, 5, 6, 7, 8, 9]
attribute [simp] Try.f19
noncomputable def an_curve_Reach : Ann := ⟨[0, 1, 4, 5, 6, 7, 8, 9], [12, 18, 26, 41], [], [(6, [0, 1, 6])], [(0, []), (1, [0, 1, 6])], some [4, 5], [(8, 12), (11, 17)]⟩
@[simp] theorem an_curve_Reach_draws : an_curve_Reach.draws = [(8, 12), (11, 17)] := rfl
@[simp] theorem an_curve_Reach_exits : an_curve_Reach.exits = [(0, []), (1, [0, 1, 6])] := rfl
@[simp] theorem an_curve_Reach_rets : an_curve_Reach.rets = some [4, 5] := rfl
@[simp] theorem an_curve_Reach_keep : an_curve_Reach.keep = [0, 1, 4, 5, 6, 7, 8, 9] := rfl
@[simp] theorem an_curve_Reach_cond : an_curve_Reach.cond = [12, 18, 26, 41] := rfl
@[simp] theorem an_curve_Reach_rows : an_curve_Reach.rows = [] := rfl
@[simp] theorem an_curve_Reach_loops : an_curve_Reach.loops = [(6, [0, 1, 6])] := rfl
@[simp] noncomputable def cl_curve_Reach : List (Nat × (List D → Option D)) := [(13, F_curve_Check)]
@[simp] noncomputable def c_curve_Reach (f : FuncId) (ds : List D) : Option D := callOf cl_curve_Reach f ds
noncomputable def F_curve_Reach (ds : List D) : Option D := runF Try.prog c_curve_Reach an_curve_Reach 65 (bodyOf Try.f19) [.tmp 4, .tmp 5] ds
noncomputable def L_curve_Reach (i n : Nat) (s : St) : Option (E × St) := atN Try.prog c_curve_Reach an_curve_Reach 65 (bodyOf Try.f19) i n s
noncomputable def H_curve_Reach (n i : Nat) (s : St) : Option (E × St) := atH Try.prog c_curve_Reach an_curve_Reach 65 (bodyOf Try.f19) n i s
@[simp] theorem H_curve_Reach_eq (n i : Nat) (s : St) : H_curve_Reach n i s = L_curve_Reach i n (headOf (an_curve_Reach.loops.lookup i) s) := rfl
noncomputable def R_curve_Reach (i : Nat) (s : St) : Option (E × St) := stepL Try.prog c_curve_Reach an_curve_Reach 65 (bodyOf Try.f19) i s
theorem lok_curve_Reach : okLoops (bodyOf Try.f19) = true := by kernel_rfl
theorem L_curve_Reach_zero (i : Nat) (s : St) : L_curve_Reach i 0 s = none := rfl
theorem L_curve_Reach_succ (i n : Nat) (s : St) : L_curve_Reach i (n + 1) s = andThen (R_curve_Reach i s) (H_curve_Reach n i) := atN_succ lok_curve_Reach i n s
theorem R_curve_Reach_eq (i : Nat) (s : St) : R_curve_Reach i s = runS Try.prog c_curve_Reach (H_curve_Reach bigL) an_curve_Reach 65 (loopAt (bodyOf Try.f19) i) s := rfl
theorem F_curve_Reach_eq (ds : List D) : F_curve_Reach ds = runG Try.prog c_curve_Reach (H_curve_Reach bigL) an_curve_Reach 65 (bodyOf Try.f19) [.tmp 4, .tmp 5] ds := runG_eq lok_curve_Reach _ ds
theorem C_curve_Reach (ds : List D) (r : D) (h : F_curve_Reach ds = some r) : Contract Try.prog 19 ds r := contract_of mix Try.func19 rfl (by kernel_rfl) (by kernel_rfl) (callOf_ok cl_curve_Reach ⟨C_curve_Check, trivial⟩) h
-- sawmill/curve.floor: loops []; state: params 0..1, then [4, 5]
attribute [simp] Try.f28
noncomputable def an_curve_floor : Ann := ⟨[0, 1, 4, 5], [12], [], [], [], some [4], []⟩
@[simp] theorem an_curve_floor_draws : an_curve_floor.draws = [] := rfl
@[simp] theorem an_curve_floor_exits : an_curve_floor.exits = [] := rfl
@[simp] theorem an_curve_floor_rets : an_curve_floor.rets = some [4] := rfl
@[simp] theorem an_curve_floor_keep : an_curve_floor.keep = [0, 1, 4, 5] := rfl
@[simp] theorem an_curve_floor_cond : an_curve_floor.cond = [12] := rfl
@[simp] theorem an_curve_floor_rows : an_curve_floor.rows = [] := rfl
@[simp] theorem an_curve_floor_loops : an_curve_floor.loops = [] := rfl
@[simp] noncomputable def cl_curve_floor : List (Nat × (List D → Option D)) := []
@[simp] noncomputable def c_curve_floor (f : FuncId) (ds : List D) : Option D := callOf cl_curve_floor f ds
noncomputable def F_curve_floor (ds : List D) : Option D := runF Try.prog c_curve_floor an_curve_floor 16 (bodyOf Try.f28) [.tmp 4] ds
noncomputable def L_curve_floor (i n : Nat) (s : St) : Option (E × St) := atN Try.prog c_curve_floor an_curve_floor 16 (bodyOf Try.f28) i n s
noncomputable def H_curve_floor (n i : Nat) (s : St) : Option (E × St) := atH Try.prog c_curve_floor an_curve_floor 16 (bodyOf Try.f28) n i s
@[simp] theorem H_curve_floor_eq (n i : Nat) (s : St) : H_curve_floor n i s = L_curve_floor i n (headOf (an_curve_floor.loops.lookup i) s) := rfl
noncomputable def R_curve_floor (i : Nat) (s : St) : Option (E × St) := stepL Try.prog c_curve_floor an_curve_floor 16 (bodyOf Try.f28) i s
theorem lok_curve_floor : okLoops (bodyOf Try.f28) = true := by kernel_rfl
theorem F_curve_floor_eq (ds : List D) : F_curve_floor ds = runG Try.prog c_curve_floor (H_curve_floor bigL) an_curve_floor 16 (bodyOf Try.f28) [.tmp 4] ds := runG_eq lok_curve_floor _ ds
theorem C_curve_floor (ds : List D) (r : D) (h : F_curve_floor ds = some r) : Contract Try.prog 28 ds r := contract_of mix Try.func28 rfl (by kernel_rfl) (by kernel_rfl) (callOf_ok cl_curve_floor trivial) h
-- sawmill/curve.At: loops [6]; state: params 0..1, then [4, 5, 6, 7]
attribute [simp] Try.f17
noncomputable def an_curve_At : Ann := ⟨[0, 1, 4, 5, 6, 7], [10, 16, 24, 33], [], [(6, [0, 1, 5])], [(0, [0]), (1, [0, 1, 5])], some [4], [(9, 12), (10, 18)]⟩
@[simp] theorem an_curve_At_draws : an_curve_At.draws = [(9, 12), (10, 18)] := rfl
@[simp] theorem an_curve_At_exits : an_curve_At.exits = [(0, [0]), (1, [0, 1, 5])] := rfl
@[simp] theorem an_curve_At_rets : an_curve_At.rets = some [4] := rfl
@[simp] theorem an_curve_At_keep : an_curve_At.keep = [0, 1, 4, 5, 6, 7] := rfl
@[simp] theorem an_curve_At_cond : an_curve_At.cond = [10, 16, 24, 33] := rfl
@[simp] theorem an_curve_At_rows : an_curve_At.rows = [] := rfl
@[simp] theorem an_curve_At_loops : an_curve_At.loops = [(6, [0, 1, 5])] := rfl
@[simp] noncomputable def cl_curve_At : List (Nat × (List D → Option D)) := [(13, F_curve_Check), (28, F_curve_floor)]
@[simp] noncomputable def c_curve_At (f : FuncId) (ds : List D) : Option D := callOf cl_curve_At f ds
noncomputable def F_curve_At (ds : List D) : Option D := runF Try.prog c_curve_At an_curve_At 69 (bodyOf Try.f17) [.tmp 4] ds
noncomputable def L_curve_At (i n : Nat) (s : St) : Option (E × St) := atN Try.prog c_curve_At an_curve_At 69 (bodyOf Try.f17) i n s
noncomputable def H_curve_At (n i : Nat) (s : St) : Option (E × St) := atH Try.prog c_curve_At an_curve_At 69 (bodyOf Try.f17) n i s
@[simp] theorem H_curve_At_eq (n i : Nat) (s : St) : H_curve_At n i s = L_curve_At i n (headOf (an_curve_At.loops.lookup i) s) := rfl
noncomputable def R_curve_At (i : Nat) (s : St) : Option (E × St) := stepL Try.prog c_curve_At an_curve_At 69 (bodyOf Try.f17) i s
theorem lok_curve_At : okLoops (bodyOf Try.f17) = true := by kernel_rfl
theorem L_curve_At_zero (i : Nat) (s : St) : L_curve_At i 0 s = none := rfl
theorem L_curve_At_succ (i n : Nat) (s : St) : L_curve_At i (n + 1) s = andThen (R_curve_At i s) (H_curve_At n i) := atN_succ lok_curve_At i n s
theorem R_curve_At_eq (i : Nat) (s : St) : R_curve_At i s = runS Try.prog c_curve_At (H_curve_At bigL) an_curve_At 69 (loopAt (bodyOf Try.f17) i) s := rfl
theorem F_curve_At_eq (ds : List D) : F_curve_At ds = runG Try.prog c_curve_At (H_curve_At bigL) an_curve_At 69 (bodyOf Try.f17) [.tmp 4] ds := runG_eq lok_curve_At _ ds
theorem C_curve_At (ds : List D) (r : D) (h : F_curve_At ds = some r) : Contract Try.prog 17 ds r := contract_of mix Try.func17 rfl (by kernel_rfl) (by kernel_rfl) (callOf_ok cl_curve_At ⟨C_curve_Check, C_curve_floor, trivial⟩) h
-- sawmill/curve.Rising: loops [4]; state: params 0..0, then [2, 3]
attribute [simp] Try.f15
noncomputable def an_curve_Rising : Ann := ⟨[0, 2, 3], [6, 10, 24], [], [(4, [0, 3])], [(0, []), (1, [0, 3])], some [2], [(6, 11)]⟩
@[simp] theorem an_curve_Rising_draws : an_curve_Rising.draws = [(6, 11)] := rfl
@[simp] theorem an_curve_Rising_exits : an_curve_Rising.exits = [(0, []), (1, [0, 3])] := rfl
@[simp] theorem an_curve_Rising_rets : an_curve_Rising.rets = some [2] := rfl
@[simp] theorem an_curve_Rising_keep : an_curve_Rising.keep = [0, 2, 3] := rfl
@[simp] theorem an_curve_Rising_cond : an_curve_Rising.cond = [6, 10, 24] := rfl
@[simp] theorem an_curve_Rising_rows : an_curve_Rising.rows = [] := rfl
@[simp] theorem an_curve_Rising_loops : an_curve_Rising.loops = [(4, [0, 3])] := rfl
@[simp] noncomputable def cl_curve_Rising : List (Nat × (List D → Option D)) := [(13, F_curve_Check)]
@[simp] noncomputable def c_curve_Rising (f : FuncId) (ds : List D) : Option D := callOf cl_curve_Rising f ds
noncomputable def F_curve_Rising (ds : List D) : Option D := runF Try.prog c_curve_Rising an_curve_Rising 25 (bodyOf Try.f15) [.tmp 2] ds
noncomputable def L_curve_Rising (i n : Nat) (s : St) : Option (E × St) := atN Try.prog c_curve_Rising an_curve_Rising 25 (bodyOf Try.f15) i n s
noncomputable def H_curve_Rising (n i : Nat) (s : St) : Option (E × St) := atH Try.prog c_curve_Rising an_curve_Rising 25 (bodyOf Try.f15) n i s
@[simp] theorem H_curve_Rising_eq (n i : Nat) (s : St) : H_curve_Rising n i s = L_curve_Rising i n (headOf (an_curve_Rising.loops.lookup i) s) := rfl
noncomputable def R_curve_Rising (i : Nat) (s : St) : Option (E × St) := stepL Try.prog c_curve_Rising an_curve_Rising 25 (bodyOf Try.f15) i s
theorem lok_curve_Rising : okLoops (bodyOf Try.f15) = true := by kernel_rfl
theorem L_curve_Rising_zero (i : Nat) (s : St) : L_curve_Rising i 0 s = none := rfl
theorem L_curve_Rising_succ (i n : Nat) (s : St) : L_curve_Rising i (n + 1) s = andThen (R_curve_Rising i s) (H_curve_Rising n i) := atN_succ lok_curve_Rising i n s
theorem R_curve_Rising_eq (i : Nat) (s : St) : R_curve_Rising i s = runS Try.prog c_curve_Rising (H_curve_Rising bigL) an_curve_Rising 25 (loopAt (bodyOf Try.f15) i) s := rfl
theorem F_curve_Rising_eq (ds : List D) : F_curve_Rising ds = runG Try.prog c_curve_Rising (H_curve_Rising bigL) an_curve_Rising 25 (bodyOf Try.f15) [.tmp 2] ds := runG_eq lok_curve_Rising _ ds
theorem C_curve_Rising (ds : List D) (r : D) (h : F_curve_Rising ds = some r) : Contract Try.prog 15 ds r := contract_of mix Try.func15 rfl (by kernel_rfl) (by kernel_rfl) (callOf_ok cl_curve_Rising ⟨C_curve_Check, trivial⟩) h
-- sawmill/curve.checkAxis: loops [2]; state: params 0..0, then [2, 3, 4, 5, 6, 7]
attribute [simp] Try.f31
noncomputable def an_curve_checkAxis : Ann := ⟨[0, 2, 3, 4, 5, 6, 7], [8, 14, 25], [], [(2, [0, 5, 6, 7])], [(0, []), (1, [0, 5, 6, 7])], some [2], []⟩
@[simp] theorem an_curve_checkAxis_draws : an_curve_checkAxis.draws = [] := rfl
@[simp] theorem an_curve_checkAxis_exits : an_curve_checkAxis.exits = [(0, []), (1, [0, 5, 6, 7])] := rfl
@[simp] theorem an_curve_checkAxis_rets : an_curve_checkAxis.rets = some [2] := rfl
@[simp] theorem an_curve_checkAxis_keep : an_curve_checkAxis.keep = [0, 2, 3, 4, 5, 6, 7] := rfl
@[simp] theorem an_curve_checkAxis_cond : an_curve_checkAxis.cond = [8, 14, 25] := rfl
@[simp] theorem an_curve_checkAxis_rows : an_curve_checkAxis.rows = [] := rfl
@[simp] theorem an_curve_checkAxis_loops : an_curve_checkAxis.loops = [(2, [0, 5, 6, 7])] := rfl
@[simp] noncomputable def cl_curve_checkAxis : List (Nat × (List D → Option D)) := [(26, F_curve_inRange)]
@[simp] noncomputable def c_curve_checkAxis (f : FuncId) (ds : List D) : Option D := callOf cl_curve_checkAxis f ds
noncomputable def F_curve_checkAxis (ds : List D) : Option D := runF Try.prog c_curve_checkAxis an_curve_checkAxis 27 (bodyOf Try.f31) [.tmp 2] ds
noncomputable def L_curve_checkAxis (i n : Nat) (s : St) : Option (E × St) := atN Try.prog c_curve_checkAxis an_curve_checkAxis 27 (bodyOf Try.f31) i n s
noncomputable def H_curve_checkAxis (n i : Nat) (s : St) : Option (E × St) := atH Try.prog c_curve_checkAxis an_curve_checkAxis 27 (bodyOf Try.f31) n i s
@[simp] theorem H_curve_checkAxis_eq (n i : Nat) (s : St) : H_curve_checkAxis n i s = L_curve_checkAxis i n (headOf (an_curve_checkAxis.loops.lookup i) s) := rfl
noncomputable def R_curve_checkAxis (i : Nat) (s : St) : Option (E × St) := stepL Try.prog c_curve_checkAxis an_curve_checkAxis 27 (bodyOf Try.f31) i s
theorem lok_curve_checkAxis : okLoops (bodyOf Try.f31) = true := by kernel_rfl
theorem L_curve_checkAxis_zero (i : Nat) (s : St) : L_curve_checkAxis i 0 s = none := rfl
theorem L_curve_checkAxis_succ (i n : Nat) (s : St) : L_curve_checkAxis i (n + 1) s = andThen (R_curve_checkAxis i s) (H_curve_checkAxis n i) := atN_succ lok_curve_checkAxis i n s
theorem R_curve_checkAxis_eq (i : Nat) (s : St) : R_curve_checkAxis i s = runS Try.prog c_curve_checkAxis (H_curve_checkAxis bigL) an_curve_checkAxis 27 (loopAt (bodyOf Try.f31) i) s := rfl
theorem F_curve_checkAxis_eq (ds : List D) : F_curve_checkAxis ds = runG Try.prog c_curve_checkAxis (H_curve_checkAxis bigL) an_curve_checkAxis 27 (bodyOf Try.f31) [.tmp 2] ds := runG_eq lok_curve_checkAxis _ ds
theorem C_curve_checkAxis (ds : List D) (r : D) (h : F_curve_checkAxis ds = some r) : Contract Try.prog 31 ds r := contract_of mix Try.func31 rfl (by kernel_rfl) (by kernel_rfl) (callOf_ok cl_curve_checkAxis ⟨C_curve_inRange, trivial⟩) h
-- sawmill/curve.CheckGrid: loops [14, 19]; state: params 0..0, then [1, 2, 3, 4, 6, 8, 49, 50, 51, 61, 62, 63]
attribute [simp] Try.f22
noncomputable def an_curve_CheckGrid : Ann := ⟨[1, 2, 3, 4, 6, 8, 49, 50, 51, 61, 62, 63], [18, 28, 33, 39, 47, 52, 60, 64, 69], [], [(14, [1, 49, 50, 51]), (19, [1, 49, 50, 51, 61, 62, 63])], [(0, []), (1, [1, 49, 50, 51]), (2, [1, 49, 50, 51]), (3, [1, 49, 50, 51, 61, 62, 63])], some [2], []⟩
@[simp] theorem an_curve_CheckGrid_draws : an_curve_CheckGrid.draws = [] := rfl
@[simp] theorem an_curve_CheckGrid_exits : an_curve_CheckGrid.exits = [(0, []), (1, [1, 49, 50, 51]), (2, [1, 49, 50, 51]), (3, [1, 49, 50, 51, 61, 62, 63])] := rfl
@[simp] theorem an_curve_CheckGrid_rets : an_curve_CheckGrid.rets = some [2] := rfl
@[simp] theorem an_curve_CheckGrid_keep : an_curve_CheckGrid.keep = [1, 2, 3, 4, 6, 8, 49, 50, 51, 61, 62, 63] := rfl
@[simp] theorem an_curve_CheckGrid_cond : an_curve_CheckGrid.cond = [18, 28, 33, 39, 47, 52, 60, 64, 69] := rfl
@[simp] theorem an_curve_CheckGrid_rows : an_curve_CheckGrid.rows = [] := rfl
@[simp] theorem an_curve_CheckGrid_loops : an_curve_CheckGrid.loops = [(14, [1, 49, 50, 51]), (19, [1, 49, 50, 51, 61, 62, 63])] := rfl
@[simp] noncomputable def cl_curve_CheckGrid : List (Nat × (List D → Option D)) := [(26, F_curve_inRange), (31, F_curve_checkAxis)]
@[simp] noncomputable def c_curve_CheckGrid (f : FuncId) (ds : List D) : Option D := callOf cl_curve_CheckGrid f ds
noncomputable def F_curve_CheckGrid (ds : List D) : Option D := runF Try.prog c_curve_CheckGrid an_curve_CheckGrid 72 (bodyOf Try.f22) [.tmp 2] ds
noncomputable def L_curve_CheckGrid (i n : Nat) (s : St) : Option (E × St) := atN Try.prog c_curve_CheckGrid an_curve_CheckGrid 72 (bodyOf Try.f22) i n s
noncomputable def H_curve_CheckGrid (n i : Nat) (s : St) : Option (E × St) := atH Try.prog c_curve_CheckGrid an_curve_CheckGrid 72 (bodyOf Try.f22) n i s
@[simp] theorem H_curve_CheckGrid_eq (n i : Nat) (s : St) : H_curve_CheckGrid n i s = L_curve_CheckGrid i n (headOf (an_curve_CheckGrid.loops.lookup i) s) := rfl
noncomputable def R_curve_CheckGrid (i : Nat) (s : St) : Option (E × St) := stepL Try.prog c_curve_CheckGrid an_curve_CheckGrid 72 (bodyOf Try.f22) i s
theorem lok_curve_CheckGrid : okLoops (bodyOf Try.f22) = true := by kernel_rfl
theorem L_curve_CheckGrid_zero (i : Nat) (s : St) : L_curve_CheckGrid i 0 s = none := rfl
theorem L_curve_CheckGrid_succ (i n : Nat) (s : St) : L_curve_CheckGrid i (n + 1) s = andThen (R_curve_CheckGrid i s) (H_curve_CheckGrid n i) := atN_succ lok_curve_CheckGrid i n s
theorem R_curve_CheckGrid_eq (i : Nat) (s : St) : R_curve_CheckGrid i s = runS Try.prog c_curve_CheckGrid (H_curve_CheckGrid bigL) an_curve_CheckGrid 72 (loopAt (bodyOf Try.f22) i) s := rfl
theorem F_curve_CheckGrid_eq (ds : List D) : F_curve_CheckGrid ds = runG Try.prog c_curve_CheckGrid (H_curve_CheckGrid bigL) an_curve_CheckGrid 72 (bodyOf Try.f22) [.tmp 2] ds := runG_eq lok_curve_CheckGrid _ ds
theorem C_curve_CheckGrid (ds : List D) (r : D) (h : F_curve_CheckGrid ds = some r) : Contract Try.prog 22 ds r := contract_of mix Try.func22 rfl (by kernel_rfl) (by kernel_rfl) (callOf_ok cl_curve_CheckGrid ⟨C_curve_inRange, C_curve_checkAxis, trivial⟩) h
-- sawmill/curve.points: loops [3]; state: params 0..1, then [4, 5, 6, 11, 12]
attribute [simp] Try.f33
noncomputable def an_curve_points : Ann := ⟨[0, 4, 5, 6, 11, 12], [13], [5], [(3, [0, 1, 5, 11, 12])], [(0, [5]), (1, [0, 1, 5, 11, 12])], some [4], [(5, 11)]⟩
@[simp] theorem an_curve_points_draws : an_curve_points.draws = [(5, 11)] := rfl
@[simp] theorem an_curve_points_exits : an_curve_points.exits = [(0, [5]), (1, [0, 1, 5, 11, 12])] := rfl
@[simp] theorem an_curve_points_rets : an_curve_points.rets = some [4] := rfl
@[simp] theorem an_curve_points_keep : an_curve_points.keep = [0, 4, 5, 6, 11, 12] := rfl
@[simp] theorem an_curve_points_cond : an_curve_points.cond = [13] := rfl
@[simp] theorem an_curve_points_rows : an_curve_points.rows = [5] := rfl
@[simp] theorem an_curve_points_loops : an_curve_points.loops = [(3, [0, 1, 5, 11, 12])] := rfl
@[simp] noncomputable def cl_curve_points : List (Nat × (List D → Option D)) := []
@[simp] noncomputable def c_curve_points (f : FuncId) (ds : List D) : Option D := callOf cl_curve_points f ds
noncomputable def F_curve_points (ds : List D) : Option D := runF Try.prog c_curve_points an_curve_points 29 (bodyOf Try.f33) [.tmp 4] ds
noncomputable def L_curve_points (i n : Nat) (s : St) : Option (E × St) := atN Try.prog c_curve_points an_curve_points 29 (bodyOf Try.f33) i n s
noncomputable def H_curve_points (n i : Nat) (s : St) : Option (E × St) := atH Try.prog c_curve_points an_curve_points 29 (bodyOf Try.f33) n i s
@[simp] theorem H_curve_points_eq (n i : Nat) (s : St) : H_curve_points n i s = L_curve_points i n (headOf (an_curve_points.loops.lookup i) s) := rfl
noncomputable def R_curve_points (i : Nat) (s : St) : Option (E × St) := stepL Try.prog c_curve_points an_curve_points 29 (bodyOf Try.f33) i s
theorem lok_curve_points : okLoops (bodyOf Try.f33) = true := by kernel_rfl
theorem L_curve_points_zero (i : Nat) (s : St) : L_curve_points i 0 s = none := rfl
theorem L_curve_points_succ (i n : Nat) (s : St) : L_curve_points i (n + 1) s = andThen (R_curve_points i s) (H_curve_points n i) := atN_succ lok_curve_points i n s
theorem R_curve_points_eq (i : Nat) (s : St) : R_curve_points i s = runS Try.prog c_curve_points (H_curve_points bigL) an_curve_points 29 (loopAt (bodyOf Try.f33) i) s := rfl
theorem F_curve_points_eq (ds : List D) : F_curve_points ds = runG Try.prog c_curve_points (H_curve_points bigL) an_curve_points 29 (bodyOf Try.f33) [.tmp 4] ds := runG_eq lok_curve_points _ ds
theorem C_curve_points (ds : List D) (r : D) (h : F_curve_points ds = some r) : Contract Try.prog 33 ds r := contract_of mix Try.func33 rfl (by kernel_rfl) (by kernel_rfl) (callOf_ok cl_curve_points trivial) h
-- sawmill/curve.Value: loops [5]; state: params 0..2, then [3, 6, 7, 8, 9, 14, 15, 16]
attribute [simp] Try.f24
noncomputable def an_curve_Value : Ann := ⟨[3, 6, 7, 8, 9, 14, 15, 16], [12, 17], [], [(5, [1, 2, 3, 7, 14, 15, 16])], [(0, [1, 3, 7]), (1, [1, 2, 3, 7, 14, 15, 16])], some [6], [(9, 5)]⟩
@[simp] theorem an_curve_Value_draws : an_curve_Value.draws = [(9, 5)] := rfl
@[simp] theorem an_curve_Value_exits : an_curve_Value.exits = [(0, [1, 3, 7]), (1, [1, 2, 3, 7, 14, 15, 16])] := rfl
@[simp] theorem an_curve_Value_rets : an_curve_Value.rets = some [6] := rfl
@[simp] theorem an_curve_Value_keep : an_curve_Value.keep = [3, 6, 7, 8, 9, 14, 15, 16] := rfl
@[simp] theorem an_curve_Value_cond : an_curve_Value.cond = [12, 17] := rfl
@[simp] theorem an_curve_Value_rows : an_curve_Value.rows = [] := rfl
@[simp] theorem an_curve_Value_loops : an_curve_Value.loops = [(5, [1, 2, 3, 7, 14, 15, 16])] := rfl
@[simp] noncomputable def cl_curve_Value : List (Nat × (List D → Option D)) := [(17, F_curve_At), (22, F_curve_CheckGrid), (33, F_curve_points)]
@[simp] noncomputable def c_curve_Value (f : FuncId) (ds : List D) : Option D := callOf cl_curve_Value f ds
noncomputable def F_curve_Value (ds : List D) : Option D := runF Try.prog c_curve_Value an_curve_Value 36 (bodyOf Try.f24) [.tmp 6] ds
noncomputable def L_curve_Value (i n : Nat) (s : St) : Option (E × St) := atN Try.prog c_curve_Value an_curve_Value 36 (bodyOf Try.f24) i n s
noncomputable def H_curve_Value (n i : Nat) (s : St) : Option (E × St) := atH Try.prog c_curve_Value an_curve_Value 36 (bodyOf Try.f24) n i s
@[simp] theorem H_curve_Value_eq (n i : Nat) (s : St) : H_curve_Value n i s = L_curve_Value i n (headOf (an_curve_Value.loops.lookup i) s) := rfl
noncomputable def R_curve_Value (i : Nat) (s : St) : Option (E × St) := stepL Try.prog c_curve_Value an_curve_Value 36 (bodyOf Try.f24) i s
theorem lok_curve_Value : okLoops (bodyOf Try.f24) = true := by kernel_rfl
theorem L_curve_Value_zero (i : Nat) (s : St) : L_curve_Value i 0 s = none := rfl
theorem L_curve_Value_succ (i n : Nat) (s : St) : L_curve_Value i (n + 1) s = andThen (R_curve_Value i s) (H_curve_Value n i) := atN_succ lok_curve_Value i n s
theorem R_curve_Value_eq (i : Nat) (s : St) : R_curve_Value i s = runS Try.prog c_curve_Value (H_curve_Value bigL) an_curve_Value 36 (loopAt (bodyOf Try.f24) i) s := rfl
theorem F_curve_Value_eq (ds : List D) : F_curve_Value ds = runG Try.prog c_curve_Value (H_curve_Value bigL) an_curve_Value 36 (bodyOf Try.f24) [.tmp 6] ds := runG_eq lok_curve_Value _ ds
theorem C_curve_Value (ds : List D) (r : D) (h : F_curve_Value ds = some r) : Contract Try.prog 24 ds r := contract_of mix Try.func24 rfl (by kernel_rfl) (by kernel_rfl) (callOf_ok cl_curve_Value ⟨C_curve_At, C_curve_CheckGrid, C_curve_points, trivial⟩) h
-- sawmill/sawmilllaw08.awake: loops []; state: params 0..-1, then [0, 1, 2, 3, 5, 6]
attribute [simp] Try.f12
noncomputable def an_law08_awake : Ann := ⟨[0, 1, 2, 3, 5, 6], [], [], [], [], some [0], []⟩
@[simp] theorem an_law08_awake_draws : an_law08_awake.draws = [] := rfl
@[simp] theorem an_law08_awake_exits : an_law08_awake.exits = [] := rfl
@[simp] theorem an_law08_awake_rets : an_law08_awake.rets = some [0] := rfl
@[simp] theorem an_law08_awake_keep : an_law08_awake.keep = [0, 1, 2, 3, 5, 6] := rfl
@[simp] theorem an_law08_awake_cond : an_law08_awake.cond = [] := rfl
@[simp] theorem an_law08_awake_rows : an_law08_awake.rows = [] := rfl
@[simp] theorem an_law08_awake_loops : an_law08_awake.loops = [] := rfl
@[simp] noncomputable def cl_law08_awake : List (Nat × (List D → Option D)) := [(13, F_curve_Check), (15, F_curve_Rising), (17, F_curve_At), (19, F_curve_Reach), (22, F_curve_CheckGrid), (24, F_curve_Value)]
@[simp] noncomputable def c_law08_awake (f : FuncId) (ds : List D) : Option D := callOf cl_law08_awake f ds
noncomputable def F_law08_awake (ds : List D) : Option D := runF Try.prog c_law08_awake an_law08_awake 75 (bodyOf Try.f12) [.tmp 0] ds
noncomputable def L_law08_awake (i n : Nat) (s : St) : Option (E × St) := atN Try.prog c_law08_awake an_law08_awake 75 (bodyOf Try.f12) i n s
noncomputable def H_law08_awake (n i : Nat) (s : St) : Option (E × St) := atH Try.prog c_law08_awake an_law08_awake 75 (bodyOf Try.f12) n i s
@[simp] theorem H_law08_awake_eq (n i : Nat) (s : St) : H_law08_awake n i s = L_law08_awake i n (headOf (an_law08_awake.loops.lookup i) s) := rfl
noncomputable def R_law08_awake (i : Nat) (s : St) : Option (E × St) := stepL Try.prog c_law08_awake an_law08_awake 75 (bodyOf Try.f12) i s
theorem lok_law08_awake : okLoops (bodyOf Try.f12) = true := by kernel_rfl
theorem F_law08_awake_eq (ds : List D) : F_law08_awake ds = runG Try.prog c_law08_awake (H_law08_awake bigL) an_law08_awake 75 (bodyOf Try.f12) [.tmp 0] ds := runG_eq lok_law08_awake _ ds
theorem C_law08_awake (ds : List D) (r : D) (h : F_law08_awake ds = some r) : Contract Try.prog 12 ds r := contract_of mix Try.func12 rfl (by kernel_rfl) (by kernel_rfl) (callOf_ok cl_law08_awake ⟨C_curve_Check, C_curve_Rising, C_curve_At, C_curve_Reach, C_curve_CheckGrid, C_curve_Value, trivial⟩) h
-- sawmill/sawmillref08.small: loops []; state: params 0..0, then [2]
attribute [simp] Try.f27
noncomputable def an_ref08_small : Ann := ⟨[2], [], [], [], [], some [2], []⟩
@[simp] theorem an_ref08_small_draws : an_ref08_small.draws = [] := rfl
@[simp] theorem an_ref08_small_exits : an_ref08_small.exits = [] := rfl
@[simp] theorem an_ref08_small_rets : an_ref08_small.rets = some [2] := rfl
@[simp] theorem an_ref08_small_keep : an_ref08_small.keep = [2] := rfl
@[simp] theorem an_ref08_small_cond : an_ref08_small.cond = [] := rfl
@[simp] theorem an_ref08_small_rows : an_ref08_small.rows = [] := rfl
@[simp] theorem an_ref08_small_loops : an_ref08_small.loops = [] := rfl
@[simp] noncomputable def cl_ref08_small : List (Nat × (List D → Option D)) := []
@[simp] noncomputable def c_ref08_small (f : FuncId) (ds : List D) : Option D := callOf cl_ref08_small f ds
noncomputable def F_ref08_small (ds : List D) : Option D := runF Try.prog c_ref08_small an_ref08_small 9 (bodyOf Try.f27) [.tmp 2] ds
noncomputable def L_ref08_small (i n : Nat) (s : St) : Option (E × St) := atN Try.prog c_ref08_small an_ref08_small 9 (bodyOf Try.f27) i n s
noncomputable def H_ref08_small (n i : Nat) (s : St) : Option (E × St) := atH Try.prog c_ref08_small an_ref08_small 9 (bodyOf Try.f27) n i s
@[simp] theorem H_ref08_small_eq (n i : Nat) (s : St) : H_ref08_small n i s = L_ref08_small i n (headOf (an_ref08_small.loops.lookup i) s) := rfl
noncomputable def R_ref08_small (i : Nat) (s : St) : Option (E × St) := stepL Try.prog c_ref08_small an_ref08_small 9 (bodyOf Try.f27) i s
theorem lok_ref08_small : okLoops (bodyOf Try.f27) = true := by kernel_rfl
theorem F_ref08_small_eq (ds : List D) : F_ref08_small ds = runG Try.prog c_ref08_small (H_ref08_small bigL) an_ref08_small 9 (bodyOf Try.f27) [.tmp 2] ds := runG_eq lok_ref08_small _ ds
theorem C_ref08_small (ds : List D) (r : D) (h : F_ref08_small ds = some r) : Contract Try.prog 27 ds r := contract_of mix Try.func27 rfl (by kernel_rfl) (by kernel_rfl) (callOf_ok cl_ref08_small trivial) h
-- sawmill/sawmillref08.Check: loops [6]; state: params 0..0, then [2, 3]
attribute [simp] Try.f14
noncomputable def an_ref08_Check : Ann := ⟨[0, 2, 3], [6, 9, 13, 31, 47], [], [(6, [0, 3])], [(0, []), (1, [0, 3])], some [2], [(10, 14)]⟩
@[simp] theorem an_ref08_Check_draws : an_ref08_Check.draws = [(10, 14)] := rfl
@[simp] theorem an_ref08_Check_exits : an_ref08_Check.exits = [(0, []), (1, [0, 3])] := rfl
@[simp] theorem an_ref08_Check_rets : an_ref08_Check.rets = some [2] := rfl
@[simp] theorem an_ref08_Check_keep : an_ref08_Check.keep = [0, 2, 3] := rfl
@[simp] theorem an_ref08_Check_cond : an_ref08_Check.cond = [6, 9, 13, 31, 47] := rfl
@[simp] theorem an_ref08_Check_rows : an_ref08_Check.rows = [] := rfl
@[simp] theorem an_ref08_Check_loops : an_ref08_Check.loops = [(6, [0, 3])] := rfl
@[simp] noncomputable def cl_ref08_Check : List (Nat × (List D → Option D)) := [(27, F_ref08_small)]
@[simp] noncomputable def c_ref08_Check (f : FuncId) (ds : List D) : Option D := callOf cl_ref08_Check f ds
noncomputable def F_ref08_Check (ds : List D) : Option D := runF Try.prog c_ref08_Check an_ref08_Check 48 (bodyOf Try.f14) [.tmp 2] ds
noncomputable def L_ref08_Check (i n : Nat) (s : St) : Option (E × St) := atN Try.prog c_ref08_Check an_ref08_Check 48 (bodyOf Try.f14) i n s
noncomputable def H_ref08_Check (n i : Nat) (s : St) : Option (E × St) := atH Try.prog c_ref08_Check an_ref08_Check 48 (bodyOf Try.f14) n i s
@[simp] theorem H_ref08_Check_eq (n i : Nat) (s : St) : H_ref08_Check n i s = L_ref08_Check i n (headOf (an_ref08_Check.loops.lookup i) s) := rfl
noncomputable def R_ref08_Check (i : Nat) (s : St) : Option (E × St) := stepL Try.prog c_ref08_Check an_ref08_Check 48 (bodyOf Try.f14) i s
theorem lok_ref08_Check : okLoops (bodyOf Try.f14) = true := by kernel_rfl
theorem L_ref08_Check_zero (i : Nat) (s : St) : L_ref08_Check i 0 s = none := rfl
theorem L_ref08_Check_succ (i n : Nat) (s : St) : L_ref08_Check i (n + 1) s = andThen (R_ref08_Check i s) (H_ref08_Check n i) := atN_succ lok_ref08_Check i n s
theorem R_ref08_Check_eq (i : Nat) (s : St) : R_ref08_Check i s = runS Try.prog c_ref08_Check (H_ref08_Check bigL) an_ref08_Check 48 (loopAt (bodyOf Try.f14) i) s := rfl
theorem F_ref08_Check_eq (ds : List D) : F_ref08_Check ds = runG Try.prog c_ref08_Check (H_ref08_Check bigL) an_ref08_Check 48 (bodyOf Try.f14) [.tmp 2] ds := runG_eq lok_ref08_Check _ ds
theorem C_ref08_Check (ds : List D) (r : D) (h : F_ref08_Check ds = some r) : Contract Try.prog 14 ds r := contract_of mix Try.func14 rfl (by kernel_rfl) (by kernel_rfl) (callOf_ok cl_ref08_Check ⟨C_ref08_small, trivial⟩) h
-- sawmill/sawmillref08.Rising: loops [2]; state: params 0..0, then [2, 3]
attribute [simp] Try.f16
noncomputable def an_ref08_Rising : Ann := ⟨[0, 2, 3], [7, 21], [], [(2, [0, 3])], [(0, [0]), (1, [0, 3])], some [2], [(4, 11)]⟩
@[simp] theorem an_ref08_Rising_draws : an_ref08_Rising.draws = [(4, 11)] := rfl
@[simp] theorem an_ref08_Rising_exits : an_ref08_Rising.exits = [(0, [0]), (1, [0, 3])] := rfl
@[simp] theorem an_ref08_Rising_rets : an_ref08_Rising.rets = some [2] := rfl
@[simp] theorem an_ref08_Rising_keep : an_ref08_Rising.keep = [0, 2, 3] := rfl
@[simp] theorem an_ref08_Rising_cond : an_ref08_Rising.cond = [7, 21] := rfl
@[simp] theorem an_ref08_Rising_rows : an_ref08_Rising.rows = [] := rfl
@[simp] theorem an_ref08_Rising_loops : an_ref08_Rising.loops = [(2, [0, 3])] := rfl
@[simp] noncomputable def cl_ref08_Rising : List (Nat × (List D → Option D)) := [(14, F_ref08_Check)]
@[simp] noncomputable def c_ref08_Rising (f : FuncId) (ds : List D) : Option D := callOf cl_ref08_Rising f ds
noncomputable def F_ref08_Rising (ds : List D) : Option D := runF Try.prog c_ref08_Rising an_ref08_Rising 25 (bodyOf Try.f16) [.tmp 2] ds
noncomputable def L_ref08_Rising (i n : Nat) (s : St) : Option (E × St) := atN Try.prog c_ref08_Rising an_ref08_Rising 25 (bodyOf Try.f16) i n s
noncomputable def H_ref08_Rising (n i : Nat) (s : St) : Option (E × St) := atH Try.prog c_ref08_Rising an_ref08_Rising 25 (bodyOf Try.f16) n i s
@[simp] theorem H_ref08_Rising_eq (n i : Nat) (s : St) : H_ref08_Rising n i s = L_ref08_Rising i n (headOf (an_ref08_Rising.loops.lookup i) s) := rfl
noncomputable def R_ref08_Rising (i : Nat) (s : St) : Option (E × St) := stepL Try.prog c_ref08_Rising an_ref08_Rising 25 (bodyOf Try.f16) i s
theorem lok_ref08_Rising : okLoops (bodyOf Try.f16) = true := by kernel_rfl
theorem L_ref08_Rising_zero (i : Nat) (s : St) : L_ref08_Rising i 0 s = none := rfl
theorem L_ref08_Rising_succ (i n : Nat) (s : St) : L_ref08_Rising i (n + 1) s = andThen (R_ref08_Rising i s) (H_ref08_Rising n i) := atN_succ lok_ref08_Rising i n s
theorem R_ref08_Rising_eq (i : Nat) (s : St) : R_ref08_Rising i s = runS Try.prog c_ref08_Rising (H_ref08_Rising bigL) an_ref08_Rising 25 (loopAt (bodyOf Try.f16) i) s := rfl
theorem F_ref08_Rising_eq (ds : List D) : F_ref08_Rising ds = runG Try.prog c_ref08_Rising (H_ref08_Rising bigL) an_ref08_Rising 25 (bodyOf Try.f16) [.tmp 2] ds := runG_eq lok_ref08_Rising _ ds
theorem C_ref08_Rising (ds : List D) (r : D) (h : F_ref08_Rising ds = some r) : Contract Try.prog 16 ds r := contract_of mix Try.func16 rfl (by kernel_rfl) (by kernel_rfl) (callOf_ok cl_ref08_Rising ⟨C_ref08_Check, trivial⟩) h
-- sawmill/sawmilllaw08.CurveChecks: loops []; state: params 0..0, then [2]
attribute [simp] Try.f3
noncomputable def an_law08_CurveChecks : Ann := ⟨[0, 2], [5], [], [], [], some [2], []⟩
@[simp] theorem an_law08_CurveChecks_draws : an_law08_CurveChecks.draws = [] := rfl
@[simp] theorem an_law08_CurveChecks_exits : an_law08_CurveChecks.exits = [] := rfl
@[simp] theorem an_law08_CurveChecks_rets : an_law08_CurveChecks.rets = some [2] := rfl
@[simp] theorem an_law08_CurveChecks_keep : an_law08_CurveChecks.keep = [0, 2] := rfl
@[simp] theorem an_law08_CurveChecks_cond : an_law08_CurveChecks.cond = [5] := rfl
@[simp] theorem an_law08_CurveChecks_rows : an_law08_CurveChecks.rows = [] := rfl
@[simp] theorem an_law08_CurveChecks_loops : an_law08_CurveChecks.loops = [] := rfl
@[simp] noncomputable def cl_law08_CurveChecks : List (Nat × (List D → Option D)) := [(11, F_law08_small), (12, F_law08_awake), (13, F_curve_Check), (14, F_ref08_Check), (15, F_curve_Rising), (16, F_ref08_Rising)]
@[simp] noncomputable def c_law08_CurveChecks (f : FuncId) (ds : List D) : Option D := callOf cl_law08_CurveChecks f ds
noncomputable def F_law08_CurveChecks (ds : List D) : Option D := runF Try.prog c_law08_CurveChecks an_law08_CurveChecks 22 (bodyOf Try.f3) [.tmp 2] ds
noncomputable def L_law08_CurveChecks (i n : Nat) (s : St) : Option (E × St) := atN Try.prog c_law08_CurveChecks an_law08_CurveChecks 22 (bodyOf Try.f3) i n s
noncomputable def H_law08_CurveChecks (n i : Nat) (s : St) : Option (E × St) := atH Try.prog c_law08_CurveChecks an_law08_CurveChecks 22 (bodyOf Try.f3) n i s
@[simp] theorem H_law08_CurveChecks_eq (n i : Nat) (s : St) : H_law08_CurveChecks n i s = L_law08_CurveChecks i n (headOf (an_law08_CurveChecks.loops.lookup i) s) := rfl
noncomputable def R_law08_CurveChecks (i : Nat) (s : St) : Option (E × St) := stepL Try.prog c_law08_CurveChecks an_law08_CurveChecks 22 (bodyOf Try.f3) i s
theorem lok_law08_CurveChecks : okLoops (bodyOf Try.f3) = true := by kernel_rfl
theorem F_law08_CurveChecks_eq (ds : List D) : F_law08_CurveChecks ds = runG Try.prog c_law08_CurveChecks (H_law08_CurveChecks bigL) an_law08_CurveChecks 22 (bodyOf Try.f3) [.tmp 2] ds := runG_eq lok_law08_CurveChecks _ ds
theorem C_law08_CurveChecks (ds : List D) (r : D) (h : F_law08_CurveChecks ds = some r) : Contract Try.prog 3 ds r := contract_of mix Try.func3 rfl (by kernel_rfl) (by kernel_rfl) (callOf_ok cl_law08_CurveChecks ⟨C_law08_small, C_law08_awake, C_curve_Check, C_ref08_Check, C_curve_Rising, C_ref08_Rising, trivial⟩) h
-- sawmill/sawmillref08.floor: loops []; state: params 0..1, then [4, 5]
attribute [simp] Try.f30
noncomputable def an_ref08_floor : Ann := ⟨[0, 1, 4, 5], [13], [], [], [], some [4], []⟩
@[simp] theorem an_ref08_floor_draws : an_ref08_floor.draws = [] := rfl
@[simp] theorem an_ref08_floor_exits : an_ref08_floor.exits = [] := rfl
@[simp] theorem an_ref08_floor_rets : an_ref08_floor.rets = some [4] := rfl
@[simp] theorem an_ref08_floor_keep : an_ref08_floor.keep = [0, 1, 4, 5] := rfl
@[simp] theorem an_ref08_floor_cond : an_ref08_floor.cond = [13] := rfl
@[simp] theorem an_ref08_floor_rows : an_ref08_floor.rows = [] := rfl
@[simp] theorem an_ref08_floor_loops : an_ref08_floor.loops = [] := rfl
@[simp] noncomputable def cl_ref08_floor : List (Nat × (List D → Option D)) := []
@[simp] noncomputable def c_ref08_floor (f : FuncId) (ds : List D) : Option D := callOf cl_ref08_floor f ds
noncomputable def F_ref08_floor (ds : List D) : Option D := runF Try.prog c_ref08_floor an_ref08_floor 17 (bodyOf Try.f30) [.tmp 4] ds
noncomputable def L_ref08_floor (i n : Nat) (s : St) : Option (E × St) := atN Try.prog c_ref08_floor an_ref08_floor 17 (bodyOf Try.f30) i n s
noncomputable def H_ref08_floor (n i : Nat) (s : St) : Option (E × St) := atH Try.prog c_ref08_floor an_ref08_floor 17 (bodyOf Try.f30) n i s
@[simp] theorem H_ref08_floor_eq (n i : Nat) (s : St) : H_ref08_floor n i s = L_ref08_floor i n (headOf (an_ref08_floor.loops.lookup i) s) := rfl
noncomputable def R_ref08_floor (i : Nat) (s : St) : Option (E × St) := stepL Try.prog c_ref08_floor an_ref08_floor 17 (bodyOf Try.f30) i s
theorem lok_ref08_floor : okLoops (bodyOf Try.f30) = true := by kernel_rfl
theorem F_ref08_floor_eq (ds : List D) : F_ref08_floor ds = runG Try.prog c_ref08_floor (H_ref08_floor bigL) an_ref08_floor 17 (bodyOf Try.f30) [.tmp 4] ds := runG_eq lok_ref08_floor _ ds
theorem C_ref08_floor (ds : List D) (r : D) (h : F_ref08_floor ds = some r) : Contract Try.prog 30 ds r := contract_of mix Try.func30 rfl (by kernel_rfl) (by kernel_rfl) (callOf_ok cl_ref08_floor trivial) h
-- sawmill/sawmillref08.Between: loops []; state: params 0..4, then [10]
attribute [simp] Try.f29
noncomputable def an_ref08_Between : Ann := ⟨[10], [], [], [], [], some [10], []⟩
@[simp] theorem an_ref08_Between_draws : an_ref08_Between.draws = [] := rfl
@[simp] theorem an_ref08_Between_exits : an_ref08_Between.exits = [] := rfl
@[simp] theorem an_ref08_Between_rets : an_ref08_Between.rets = some [10] := rfl
@[simp] theorem an_ref08_Between_keep : an_ref08_Between.keep = [10] := rfl
@[simp] theorem an_ref08_Between_cond : an_ref08_Between.cond = [] := rfl
@[simp] theorem an_ref08_Between_rows : an_ref08_Between.rows = [] := rfl
@[simp] theorem an_ref08_Between_loops : an_ref08_Between.loops = [] := rfl
@[simp] noncomputable def cl_ref08_Between : List (Nat × (List D → Option D)) := [(30, F_ref08_floor)]
@[simp] noncomputable def c_ref08_Between (f : FuncId) (ds : List D) : Option D := callOf cl_ref08_Between f ds
noncomputable def F_ref08_Between (ds : List D) : Option D := runF Try.prog c_ref08_Between an_ref08_Between 24 (bodyOf Try.f29) [.tmp 10] ds
noncomputable def L_ref08_Between (i n : Nat) (s : St) : Option (E × St) := atN Try.prog c_ref08_Between an_ref08_Between 24 (bodyOf Try.f29) i n s
noncomputable def H_ref08_Between (n i : Nat) (s : St) : Option (E × St) := atH Try.prog c_ref08_Between an_ref08_Between 24 (bodyOf Try.f29) n i s
@[simp] theorem H_ref08_Between_eq (n i : Nat) (s : St) : H_ref08_Between n i s = L_ref08_Between i n (headOf (an_ref08_Between.loops.lookup i) s) := rfl
noncomputable def R_ref08_Between (i : Nat) (s : St) : Option (E × St) := stepL Try.prog c_ref08_Between an_ref08_Between 24 (bodyOf Try.f29) i s
theorem lok_ref08_Between : okLoops (bodyOf Try.f29) = true := by kernel_rfl
theorem F_ref08_Between_eq (ds : List D) : F_ref08_Between ds = runG Try.prog c_ref08_Between (H_ref08_Between bigL) an_ref08_Between 24 (bodyOf Try.f29) [.tmp 10] ds := runG_eq lok_ref08_Between _ ds
theorem C_ref08_Between (ds : List D) (r : D) (h : F_ref08_Between ds = some r) : Contract Try.prog 29 ds r := contract_of mix Try.func29 rfl (by kernel_rfl) (by kernel_rfl) (callOf_ok cl_ref08_Between ⟨C_ref08_floor, trivial⟩) h
-- sawmill/sawmillref08.At: loops [6]; state: params 0..1, then [4, 5]
attribute [simp] Try.f18
noncomputable def an_ref08_At : Ann := ⟨[0, 1, 4, 5], [8, 14, 22, 31], [], [(6, [0, 1, 5])], [(0, [0]), (1, [0, 1, 5])], some [4], [(9, 23)]⟩
@[simp] theorem an_ref08_At_draws : an_ref08_At.draws = [(9, 23)] := rfl
@[simp] theorem an_ref08_At_exits : an_ref08_At.exits = [(0, [0]), (1, [0, 1, 5])] := rfl
@[simp] theorem an_ref08_At_rets : an_ref08_At.rets = some [4] := rfl
@[simp] theorem an_ref08_At_keep : an_ref08_At.keep = [0, 1, 4, 5] := rfl
@[simp] theorem an_ref08_At_cond : an_ref08_At.cond = [8, 14, 22, 31] := rfl
@[simp] theorem an_ref08_At_rows : an_ref08_At.rows = [] := rfl
@[simp] theorem an_ref08_At_loops : an_ref08_At.loops = [(6, [0, 1, 5])] := rfl
@[simp] noncomputable def cl_ref08_At : List (Nat × (List D → Option D)) := [(14, F_ref08_Check), (29, F_ref08_Between)]
@[simp] noncomputable def c_ref08_At (f : FuncId) (ds : List D) : Option D := callOf cl_ref08_At f ds
noncomputable def F_ref08_At (ds : List D) : Option D := runF Try.prog c_ref08_At an_ref08_At 63 (bodyOf Try.f18) [.tmp 4] ds
noncomputable def L_ref08_At (i n : Nat) (s : St) : Option (E × St) := atN Try.prog c_ref08_At an_ref08_At 63 (bodyOf Try.f18) i n s
noncomputable def H_ref08_At (n i : Nat) (s : St) : Option (E × St) := atH Try.prog c_ref08_At an_ref08_At 63 (bodyOf Try.f18) n i s
@[simp] theorem H_ref08_At_eq (n i : Nat) (s : St) : H_ref08_At n i s = L_ref08_At i n (headOf (an_ref08_At.loops.lookup i) s) := rfl
noncomputable def R_ref08_At (i : Nat) (s : St) : Option (E × St) := stepL Try.prog c_ref08_At an_ref08_At 63 (bodyOf Try.f18) i s
theorem lok_ref08_At : okLoops (bodyOf Try.f18) = true := by kernel_rfl
theorem L_ref08_At_zero (i : Nat) (s : St) : L_ref08_At i 0 s = none := rfl
theorem L_ref08_At_succ (i n : Nat) (s : St) : L_ref08_At i (n + 1) s = andThen (R_ref08_At i s) (H_ref08_At n i) := atN_succ lok_ref08_At i n s
theorem R_ref08_At_eq (i : Nat) (s : St) : R_ref08_At i s = runS Try.prog c_ref08_At (H_ref08_At bigL) an_ref08_At 63 (loopAt (bodyOf Try.f18) i) s := rfl
theorem F_ref08_At_eq (ds : List D) : F_ref08_At ds = runG Try.prog c_ref08_At (H_ref08_At bigL) an_ref08_At 63 (bodyOf Try.f18) [.tmp 4] ds := runG_eq lok_ref08_At _ ds
theorem C_ref08_At (ds : List D) (r : D) (h : F_ref08_At ds = some r) : Contract Try.prog 18 ds r := contract_of mix Try.func18 rfl (by kernel_rfl) (by kernel_rfl) (callOf_ok cl_ref08_At ⟨C_ref08_Check, C_ref08_Between, trivial⟩) h
-- sawmill/sawmilllaw08.CurveValues: loops []; state: params 0..1, then [4]
attribute [simp] Try.f4
noncomputable def an_law08_CurveValues : Ann := ⟨[0, 4], [7], [], [], [], some [4], []⟩
@[simp] theorem an_law08_CurveValues_draws : an_law08_CurveValues.draws = [] := rfl
@[simp] theorem an_law08_CurveValues_exits : an_law08_CurveValues.exits = [] := rfl
@[simp] theorem an_law08_CurveValues_rets : an_law08_CurveValues.rets = some [4] := rfl
@[simp] theorem an_law08_CurveValues_keep : an_law08_CurveValues.keep = [0, 4] := rfl
@[simp] theorem an_law08_CurveValues_cond : an_law08_CurveValues.cond = [7] := rfl
@[simp] theorem an_law08_CurveValues_rows : an_law08_CurveValues.rows = [] := rfl
@[simp] theorem an_law08_CurveValues_loops : an_law08_CurveValues.loops = [] := rfl
@[simp] noncomputable def cl_law08_CurveValues : List (Nat × (List D → Option D)) := [(11, F_law08_small), (12, F_law08_awake), (17, F_curve_At), (18, F_ref08_At)]
@[simp] noncomputable def c_law08_CurveValues (f : FuncId) (ds : List D) : Option D := callOf cl_law08_CurveValues f ds
noncomputable def F_law08_CurveValues (ds : List D) : Option D := runF Try.prog c_law08_CurveValues an_law08_CurveValues 19 (bodyOf Try.f4) [.tmp 4] ds
noncomputable def L_law08_CurveValues (i n : Nat) (s : St) : Option (E × St) := atN Try.prog c_law08_CurveValues an_law08_CurveValues 19 (bodyOf Try.f4) i n s
noncomputable def H_law08_CurveValues (n i : Nat) (s : St) : Option (E × St) := atH Try.prog c_law08_CurveValues an_law08_CurveValues 19 (bodyOf Try.f4) n i s
@[simp] theorem H_law08_CurveValues_eq (n i : Nat) (s : St) : H_law08_CurveValues n i s = L_law08_CurveValues i n (headOf (an_law08_CurveValues.loops.lookup i) s) := rfl
noncomputable def R_law08_CurveValues (i : Nat) (s : St) : Option (E × St) := stepL Try.prog c_law08_CurveValues an_law08_CurveValues 19 (bodyOf Try.f4) i s
theorem lok_law08_CurveValues : okLoops (bodyOf Try.f4) = true := by kernel_rfl
theorem F_law08_CurveValues_eq (ds : List D) : F_law08_CurveValues ds = runG Try.prog c_law08_CurveValues (H_law08_CurveValues bigL) an_law08_CurveValues 19 (bodyOf Try.f4) [.tmp 4] ds := runG_eq lok_law08_CurveValues _ ds
theorem C_law08_CurveValues (ds : List D) (r : D) (h : F_law08_CurveValues ds = some r) : Contract Try.prog 4 ds r := contract_of mix Try.func4 rfl (by kernel_rfl) (by kernel_rfl) (callOf_ok cl_law08_CurveValues ⟨C_law08_small, C_law08_awake, C_curve_At, C_ref08_At, trivial⟩) h
-- sawmill/sawmillref08.Reach: loops [6]; state: params 0..1, then [4, 5, 6, 7, 8]
attribute [simp] Try.f20
noncomputable def an_ref08_Reach : Ann := ⟨[0, 1, 4, 5, 6, 7, 8], [11, 17, 25, 40], [], [(6, [0, 1, 6])], [(0, []), (1, [0, 1, 6])], some [4, 5], [(8, 12), (10, 19)]⟩
@[simp] theorem an_ref08_Reach_draws : an_ref08_Reach.draws = [(8, 12), (10, 19)] := rfl
@[simp] theorem an_ref08_Reach_exits : an_ref08_Reach.exits = [(0, []), (1, [0, 1, 6])] := rfl
@[simp] theorem an_ref08_Reach_rets : an_ref08_Reach.rets = some [4, 5] := rfl
@[simp] theorem an_ref08_Reach_keep : an_ref08_Reach.keep = [0, 1, 4, 5, 6, 7, 8] := rfl
@[simp] theorem an_ref08_Reach_cond : an_ref08_Reach.cond = [11, 17, 25, 40] := rfl
@[simp] theorem an_ref08_Reach_rows : an_ref08_Reach.rows = [] := rfl
@[simp] theorem an_ref08_Reach_loops : an_ref08_Reach.loops = [(6, [0, 1, 6])] := rfl
@[simp] noncomputable def cl_ref08_Reach : List (Nat × (List D → Option D)) := [(14, F_ref08_Check), (30, F_ref08_floor)]
@[simp] noncomputable def c_ref08_Reach (f : FuncId) (ds : List D) : Option D := callOf cl_ref08_Reach f ds
noncomputable def F_ref08_Reach (ds : List D) : Option D := runF Try.prog c_ref08_Reach an_ref08_Reach 61 (bodyOf Try.f20) [.tmp 4, .tmp 5] ds
noncomputable def L_ref08_Reach (i n : Nat) (s : St) : Option (E × St) := atN Try.prog c_ref08_Reach an_ref08_Reach 61 (bodyOf Try.f20) i n s
noncomputable def H_ref08_Reach (n i : Nat) (s : St) : Option (E × St) := atH Try.prog c_ref08_Reach an_ref08_Reach 61 (bodyOf Try.f20) n i s
@[simp] theorem H_ref08_Reach_eq (n i : Nat) (s : St) : H_ref08_Reach n i s = L_ref08_Reach i n (headOf (an_ref08_Reach.loops.lookup i) s) := rfl
noncomputable def R_ref08_Reach (i : Nat) (s : St) : Option (E × St) := stepL Try.prog c_ref08_Reach an_ref08_Reach 61 (bodyOf Try.f20) i s
theorem lok_ref08_Reach : okLoops (bodyOf Try.f20) = true := by kernel_rfl
theorem L_ref08_Reach_zero (i : Nat) (s : St) : L_ref08_Reach i 0 s = none := rfl
theorem L_ref08_Reach_succ (i n : Nat) (s : St) : L_ref08_Reach i (n + 1) s = andThen (R_ref08_Reach i s) (H_ref08_Reach n i) := atN_succ lok_ref08_Reach i n s
theorem R_ref08_Reach_eq (i : Nat) (s : St) : R_ref08_Reach i s = runS Try.prog c_ref08_Reach (H_ref08_Reach bigL) an_ref08_Reach 61 (loopAt (bodyOf Try.f20) i) s := rfl
theorem F_ref08_Reach_eq (ds : List D) : F_ref08_Reach ds = runG Try.prog c_ref08_Reach (H_ref08_Reach bigL) an_ref08_Reach 61 (bodyOf Try.f20) [.tmp 4, .tmp 5] ds := runG_eq lok_ref08_Reach _ ds
theorem C_ref08_Reach (ds : List D) (r : D) (h : F_ref08_Reach ds = some r) : Contract Try.prog 20 ds r := contract_of mix Try.func20 rfl (by kernel_rfl) (by kernel_rfl) (callOf_ok cl_ref08_Reach ⟨C_ref08_Check, C_ref08_floor, trivial⟩) h
-- sawmill/sawmilllaw08.CurveReaches: loops []; state: params 0..1, then [4, 5, 6, 7, 8]
attribute [simp] Try.f5
noncomputable def an_law08_CurveReaches : Ann := ⟨[0, 1, 4, 5, 6, 7, 8], [11], [], [], [], some [4], []⟩
@[simp] theorem an_law08_CurveReaches_draws : an_law08_CurveReaches.draws = [] := rfl
@[simp] theorem an_law08_CurveReaches_exits : an_law08_CurveReaches.exits = [] := rfl
@[simp] theorem an_law08_CurveReaches_rets : an_law08_CurveReaches.rets = some [4] := rfl
@[simp] theorem an_law08_CurveReaches_keep : an_law08_CurveReaches.keep = [0, 1, 4, 5, 6, 7, 8] := rfl
@[simp] theorem an_law08_CurveReaches_cond : an_law08_CurveReaches.cond = [11] := rfl
@[simp] theorem an_law08_CurveReaches_rows : an_law08_CurveReaches.rows = [] := rfl
@[simp] theorem an_law08_CurveReaches_loops : an_law08_CurveReaches.loops = [] := rfl
@[simp] noncomputable def cl_law08_CurveReaches : List (Nat × (List D → Option D)) := [(11, F_law08_small), (12, F_law08_awake), (19, F_curve_Reach), (20, F_ref08_Reach)]
@[simp] noncomputable def c_law08_CurveReaches (f : FuncId) (ds : List D) : Option D := callOf cl_law08_CurveReaches f ds
noncomputable def F_law08_CurveReaches (ds : List D) : Option D := runF Try.prog c_law08_CurveReaches an_law08_CurveReaches 36 (bodyOf Try.f5) [.tmp 4] ds
noncomputable def L_law08_CurveReaches (i n : Nat) (s : St) : Option (E × St) := atN Try.prog c_law08_CurveReaches an_law08_CurveReaches 36 (bodyOf Try.f5) i n s
noncomputable def H_law08_CurveReaches (n i : Nat) (s : St) : Option (E × St) := atH Try.prog c_law08_CurveReaches an_law08_CurveReaches 36 (bodyOf Try.f5) n i s
@[simp] theorem H_law08_CurveReaches_eq (n i : Nat) (s : St) : H_law08_CurveReaches n i s = L_law08_CurveReaches i n (headOf (an_law08_CurveReaches.loops.lookup i) s) := rfl
noncomputable def R_law08_CurveReaches (i : Nat) (s : St) : Option (E × St) := stepL Try.prog c_law08_CurveReaches an_law08_CurveReaches 36 (bodyOf Try.f5) i s
theorem lok_law08_CurveReaches : okLoops (bodyOf Try.f5) = true := by kernel_rfl
theorem F_law08_CurveReaches_eq (ds : List D) : F_law08_CurveReaches ds = runG Try.prog c_law08_CurveReaches (H_law08_CurveReaches bigL) an_law08_CurveReaches 36 (bodyOf Try.f5) [.tmp 4] ds := runG_eq lok_law08_CurveReaches _ ds
theorem C_law08_CurveReaches (ds : List D) (r : D) (h : F_law08_CurveReaches ds = some r) : Contract Try.prog 5 ds r := contract_of mix Try.func5 rfl (by kernel_rfl) (by kernel_rfl) (callOf_ok cl_law08_CurveReaches ⟨C_law08_small, C_law08_awake, C_curve_Reach, C_ref08_Reach, trivial⟩) h
-- sawmill/sawmilllaw08.few: loops [4]; state: params 0..0, then [1, 2, 3]
attribute [simp] Try.f21
noncomputable def an_law08_few : Ann := ⟨[1, 2, 3], [19, 24, 33], [], [(4, [1, 3])], [(0, []), (1, [1, 3])], some [2], []⟩
@[simp] theorem an_law08_few_draws : an_law08_few.draws = [] := rfl
@[simp] theorem an_law08_few_exits : an_law08_few.exits = [(0, []), (1, [1, 3])] := rfl
@[simp] theorem an_law08_few_rets : an_law08_few.rets = some [2] := rfl
@[simp] theorem an_law08_few_keep : an_law08_few.keep = [1, 2, 3] := rfl
@[simp] theorem an_law08_few_cond : an_law08_few.cond = [19, 24, 33] := rfl
@[simp] theorem an_law08_few_rows : an_law08_few.rows = [] := rfl
@[simp] theorem an_law08_few_loops : an_law08_few.loops = [(4, [1, 3])] := rfl
@[simp] noncomputable def cl_law08_few : List (Nat × (List D → Option D)) := []
@[simp] noncomputable def c_law08_few (f : FuncId) (ds : List D) : Option D := callOf cl_law08_few f ds
noncomputable def F_law08_few (ds : List D) : Option D := runF Try.prog c_law08_few an_law08_few 34 (bodyOf Try.f21) [.tmp 2] ds
noncomputable def L_law08_few (i n : Nat) (s : St) : Option (E × St) := atN Try.prog c_law08_few an_law08_few 34 (bodyOf Try.f21) i n s
noncomputable def H_law08_few (n i : Nat) (s : St) : Option (E × St) := atH Try.prog c_law08_few an_law08_few 34 (bodyOf Try.f21) n i s
@[simp] theorem H_law08_few_eq (n i : Nat) (s : St) : H_law08_few n i s = L_law08_few i n (headOf (an_law08_few.loops.lookup i) s) := rfl
noncomputable def R_law08_few (i : Nat) (s : St) : Option (E × St) := stepL Try.prog c_law08_few an_law08_few 34 (bodyOf Try.f21) i s
theorem lok_law08_few : okLoops (bodyOf Try.f21) = true := by kernel_rfl
theorem L_law08_few_zero (i : Nat) (s : St) : L_law08_few i 0 s = none := rfl
theorem L_law08_few_succ (i n : Nat) (s : St) : L_law08_few i (n + 1) s = andThen (R_law08_few i s) (H_law08_few n i) := atN_succ lok_law08_few i n s
theorem R_law08_few_eq (i : Nat) (s : St) : R_law08_few i s = runS Try.prog c_law08_few (H_law08_few bigL) an_law08_few 34 (loopAt (bodyOf Try.f21) i) s := rfl
theorem F_law08_few_eq (ds : List D) : F_law08_few ds = runG Try.prog c_law08_few (H_law08_few bigL) an_law08_few 34 (bodyOf Try.f21) [.tmp 2] ds := runG_eq lok_law08_few _ ds
theorem C_law08_few (ds : List D) (r : D) (h : F_law08_few ds = some r) : Contract Try.prog 21 ds r := contract_of mix Try.func21 rfl (by kernel_rfl) (by kernel_rfl) (callOf_ok cl_law08_few trivial) h
-- sawmill/sawmillref08.numbers: loops [2]; state: params 0..0, then [2, 3]
attribute [simp] Try.f32
noncomputable def an_ref08_numbers : Ann := ⟨[0, 2, 3], [7, 15, 29], [], [(2, [0, 3])], [(0, []), (1, [0, 3])], some [2], [(6, 12)]⟩
@[simp] theorem an_ref08_numbers_draws : an_ref08_numbers.draws = [(6, 12)] := rfl
@[simp] theorem an_ref08_numbers_exits : an_ref08_numbers.exits = [(0, []), (1, [0, 3])] := rfl
@[simp] theorem an_ref08_numbers_rets : an_ref08_numbers.rets = some [2] := rfl
@[simp] theorem an_ref08_numbers_keep : an_ref08_numbers.keep = [0, 2, 3] := rfl
@[simp] theorem an_ref08_numbers_cond : an_ref08_numbers.cond = [7, 15, 29] := rfl
@[simp] theorem an_ref08_numbers_rows : an_ref08_numbers.rows = [] := rfl
@[simp] theorem an_ref08_numbers_loops : an_ref08_numbers.loops = [(2, [0, 3])] := rfl
@[simp] noncomputable def cl_ref08_numbers : List (Nat × (List D → Option D)) := [(27, F_ref08_small)]
@[simp] noncomputable def c_ref08_numbers (f : FuncId) (ds : List D) : Option D := callOf cl_ref08_numbers f ds
noncomputable def F_ref08_numbers (ds : List D) : Option D := runF Try.prog c_ref08_numbers an_ref08_numbers 30 (bodyOf Try.f32) [.tmp 2] ds
noncomputable def L_ref08_numbers (i n : Nat) (s : St) : Option (E × St) := atN Try.prog c_ref08_numbers an_ref08_numbers 30 (bodyOf Try.f32) i n s
noncomputable def H_ref08_numbers (n i : Nat) (s : St) : Option (E × St) := atH Try.prog c_ref08_numbers an_ref08_numbers 30 (bodyOf Try.f32) n i s
@[simp] theorem H_ref08_numbers_eq (n i : Nat) (s : St) : H_ref08_numbers n i s = L_ref08_numbers i n (headOf (an_ref08_numbers.loops.lookup i) s) := rfl
noncomputable def R_ref08_numbers (i : Nat) (s : St) : Option (E × St) := stepL Try.prog c_ref08_numbers an_ref08_numbers 30 (bodyOf Try.f32) i s
theorem lok_ref08_numbers : okLoops (bodyOf Try.f32) = true := by kernel_rfl
theorem L_ref08_numbers_zero (i : Nat) (s : St) : L_ref08_numbers i 0 s = none := rfl
theorem L_ref08_numbers_succ (i n : Nat) (s : St) : L_ref08_numbers i (n + 1) s = andThen (R_ref08_numbers i s) (H_ref08_numbers n i) := atN_succ lok_ref08_numbers i n s
theorem R_ref08_numbers_eq (i : Nat) (s : St) : R_ref08_numbers i s = runS Try.prog c_ref08_numbers (H_ref08_numbers bigL) an_ref08_numbers 30 (loopAt (bodyOf Try.f32) i) s := rfl
theorem F_ref08_numbers_eq (ds : List D) : F_ref08_numbers ds = runG Try.prog c_ref08_numbers (H_ref08_numbers bigL) an_ref08_numbers 30 (bodyOf Try.f32) [.tmp 2] ds := runG_eq lok_ref08_numbers _ ds
theorem C_ref08_numbers (ds : List D) (r : D) (h : F_ref08_numbers ds = some r) : Contract Try.prog 32 ds r := contract_of mix Try.func32 rfl (by kernel_rfl) (by kernel_rfl) (callOf_ok cl_ref08_numbers ⟨C_ref08_small, trivial⟩) h
-- sawmill/sawmillref08.CheckGrid: loops [14, 19]; state: params 0..0, then [1, 2, 3, 4, 5, 6]
attribute [simp] Try.f23
noncomputable def an_ref08_CheckGrid : Ann := ⟨[1, 2, 3, 4, 5, 6], [16, 26, 31, 37, 45, 50, 62, 70, 82], [], [(14, [1, 5]), (19, [1, 5, 6])], [(0, []), (1, [1, 5]), (2, [1, 5]), (3, [1, 5, 6])], some [2], [(16, 9)]⟩
@[simp] theorem an_ref08_CheckGrid_draws : an_ref08_CheckGrid.draws = [(16, 9)] := rfl
@[simp] theorem an_ref08_CheckGrid_exits : an_ref08_CheckGrid.exits = [(0, []), (1, [1, 5]), (2, [1, 5]), (3, [1, 5, 6])] := rfl
@[simp] theorem an_ref08_CheckGrid_rets : an_ref08_CheckGrid.rets = some [2] := rfl
@[simp] theorem an_ref08_CheckGrid_keep : an_ref08_CheckGrid.keep = [1, 2, 3, 4, 5, 6] := rfl
@[simp] theorem an_ref08_CheckGrid_cond : an_ref08_CheckGrid.cond = [16, 26, 31, 37, 45, 50, 62, 70, 82] := rfl
@[simp] theorem an_ref08_CheckGrid_rows : an_ref08_CheckGrid.rows = [] := rfl
@[simp] theorem an_ref08_CheckGrid_loops : an_ref08_CheckGrid.loops = [(14, [1, 5]), (19, [1, 5, 6])] := rfl
@[simp] noncomputable def cl_ref08_CheckGrid : List (Nat × (List D → Option D)) := [(27, F_ref08_small), (32, F_ref08_numbers)]
@[simp] noncomputable def c_ref08_CheckGrid (f : FuncId) (ds : List D) : Option D := callOf cl_ref08_CheckGrid f ds
noncomputable def F_ref08_CheckGrid (ds : List D) : Option D := runF Try.prog c_ref08_CheckGrid an_ref08_CheckGrid 83 (bodyOf Try.f23) [.tmp 2] ds
noncomputable def L_ref08_CheckGrid (i n : Nat) (s : St) : Option (E × St) := atN Try.prog c_ref08_CheckGrid an_ref08_CheckGrid 83 (bodyOf Try.f23) i n s
noncomputable def H_ref08_CheckGrid (n i : Nat) (s : St) : Option (E × St) := atH Try.prog c_ref08_CheckGrid an_ref08_CheckGrid 83 (bodyOf Try.f23) n i s
@[simp] theorem H_ref08_CheckGrid_eq (n i : Nat) (s : St) : H_ref08_CheckGrid n i s = L_ref08_CheckGrid i n (headOf (an_ref08_CheckGrid.loops.lookup i) s) := rfl
noncomputable def R_ref08_CheckGrid (i : Nat) (s : St) : Option (E × St) := stepL Try.prog c_ref08_CheckGrid an_ref08_CheckGrid 83 (bodyOf Try.f23) i s
theorem lok_ref08_CheckGrid : okLoops (bodyOf Try.f23) = true := by kernel_rfl
theorem L_ref08_CheckGrid_zero (i : Nat) (s : St) : L_ref08_CheckGrid i 0 s = none := rfl
theorem L_ref08_CheckGrid_succ (i n : Nat) (s : St) : L_ref08_CheckGrid i (n + 1) s = andThen (R_ref08_CheckGrid i s) (H_ref08_CheckGrid n i) := atN_succ lok_ref08_CheckGrid i n s
theorem R_ref08_CheckGrid_eq (i : Nat) (s : St) : R_ref08_CheckGrid i s = runS Try.prog c_ref08_CheckGrid (H_ref08_CheckGrid bigL) an_ref08_CheckGrid 83 (loopAt (bodyOf Try.f23) i) s := rfl
theorem F_ref08_CheckGrid_eq (ds : List D) : F_ref08_CheckGrid ds = runG Try.prog c_ref08_CheckGrid (H_ref08_CheckGrid bigL) an_ref08_CheckGrid 83 (bodyOf Try.f23) [.tmp 2] ds := runG_eq lok_ref08_CheckGrid _ ds
theorem C_ref08_CheckGrid (ds : List D) (r : D) (h : F_ref08_CheckGrid ds = some r) : Contract Try.prog 23 ds r := contract_of mix Try.func23 rfl (by kernel_rfl) (by kernel_rfl) (callOf_ok cl_ref08_CheckGrid ⟨C_ref08_small, C_ref08_numbers, trivial⟩) h
-- sawmill/sawmillref08.Row: loops [3]; state: params 0..1, then [2, 4, 5, 6]
attribute [simp] Try.f34
noncomputable def an_ref08_Row : Ann := ⟨[2, 4, 5, 6], [11], [5], [(3, [1, 2, 5, 6])], [(0, [5]), (1, [1, 2, 5, 6])], some [4], [(5, 16)]⟩
@[simp] theorem an_ref08_Row_draws : an_ref08_Row.draws = [(5, 16)] := rfl
@[simp] theorem an_ref08_Row_exits : an_ref08_Row.exits = [(0, [5]), (1, [1, 2, 5, 6])] := rfl
@[simp] theorem an_ref08_Row_rets : an_ref08_Row.rets = some [4] := rfl
@[simp] theorem an_ref08_Row_keep : an_ref08_Row.keep = [2, 4, 5, 6] := rfl
@[simp] theorem an_ref08_Row_cond : an_ref08_Row.cond = [11] := rfl
@[simp] theorem an_ref08_Row_rows : an_ref08_Row.rows = [5] := rfl
@[simp] theorem an_ref08_Row_loops : an_ref08_Row.loops = [(3, [1, 2, 5, 6])] := rfl
@[simp] noncomputable def cl_ref08_Row : List (Nat × (List D → Option D)) := []
@[simp] noncomputable def c_ref08_Row (f : FuncId) (ds : List D) : Option D := callOf cl_ref08_Row f ds
noncomputable def F_ref08_Row (ds : List D) : Option D := runF Try.prog c_ref08_Row an_ref08_Row 32 (bodyOf Try.f34) [.tmp 4] ds
noncomputable def L_ref08_Row (i n : Nat) (s : St) : Option (E × St) := atN Try.prog c_ref08_Row an_ref08_Row 32 (bodyOf Try.f34) i n s
noncomputable def H_ref08_Row (n i : Nat) (s : St) : Option (E × St) := atH Try.prog c_ref08_Row an_ref08_Row 32 (bodyOf Try.f34) n i s
@[simp] theorem H_ref08_Row_eq (n i : Nat) (s : St) : H_ref08_Row n i s = L_ref08_Row i n (headOf (an_ref08_Row.loops.lookup i) s) := rfl
noncomputable def R_ref08_Row (i : Nat) (s : St) : Option (E × St) := stepL Try.prog c_ref08_Row an_ref08_Row 32 (bodyOf Try.f34) i s
theorem lok_ref08_Row : okLoops (bodyOf Try.f34) = true := by kernel_rfl
theorem L_ref08_Row_zero (i : Nat) (s : St) : L_ref08_Row i 0 s = none := rfl
theorem L_ref08_Row_succ (i n : Nat) (s : St) : L_ref08_Row i (n + 1) s = andThen (R_ref08_Row i s) (H_ref08_Row n i) := atN_succ lok_ref08_Row i n s
theorem R_ref08_Row_eq (i : Nat) (s : St) : R_ref08_Row i s = runS Try.prog c_ref08_Row (H_ref08_Row bigL) an_ref08_Row 32 (loopAt (bodyOf Try.f34) i) s := rfl
theorem F_ref08_Row_eq (ds : List D) : F_ref08_Row ds = runG Try.prog c_ref08_Row (H_ref08_Row bigL) an_ref08_Row 32 (bodyOf Try.f34) [.tmp 4] ds := runG_eq lok_ref08_Row _ ds
theorem C_ref08_Row (ds : List D) (r : D) (h : F_ref08_Row ds = some r) : Contract Try.prog 34 ds r := contract_of mix Try.func34 rfl (by kernel_rfl) (by kernel_rfl) (callOf_ok cl_ref08_Row trivial) h
-- sawmill/sawmillref08.Value: loops [5]; state: params 0..2, then [3, 6, 7, 8]
attribute [simp] Try.f25
noncomputable def an_ref08_Value : Ann := ⟨[3, 6, 7, 8], [11, 16], [7], [(5, [1, 2, 3, 7, 8])], [(0, [1, 7]), (1, [1, 2, 3, 7, 8])], some [6], [(7, 13)]⟩
@[simp] theorem an_ref08_Value_draws : an_ref08_Value.draws = [(7, 13)] := rfl
@[simp] theorem an_ref08_Value_exits : an_ref08_Value.exits = [(0, [1, 7]), (1, [1, 2, 3, 7, 8])] := rfl
@[simp] theorem an_ref08_Value_rets : an_ref08_Value.rets = some [6] := rfl
@[simp] theorem an_ref08_Value_keep : an_ref08_Value.keep = [3, 6, 7, 8] := rfl
@[simp] theorem an_ref08_Value_cond : an_ref08_Value.cond = [11, 16] := rfl
@[simp] theorem an_ref08_Value_rows : an_ref08_Value.rows = [7] := rfl
@[simp] theorem an_ref08_Value_loops : an_ref08_Value.loops = [(5, [1, 2, 3, 7, 8])] := rfl
@[simp] noncomputable def cl_ref08_Value : List (Nat × (List D → Option D)) := [(18, F_ref08_At), (23, F_ref08_CheckGrid), (34, F_ref08_Row)]
@[simp] noncomputable def c_ref08_Value (f : FuncId) (ds : List D) : Option D := callOf cl_ref08_Value f ds
noncomputable def F_ref08_Value (ds : List D) : Option D := runF Try.prog c_ref08_Value an_ref08_Value 36 (bodyOf Try.f25) [.tmp 6] ds
noncomputable def L_ref08_Value (i n : Nat) (s : St) : Option (E × St) := atN Try.prog c_ref08_Value an_ref08_Value 36 (bodyOf Try.f25) i n s
noncomputable def H_ref08_Value (n i : Nat) (s : St) : Option (E × St) := atH Try.prog c_ref08_Value an_ref08_Value 36 (bodyOf Try.f25) n i s
@[simp] theorem H_ref08_Value_eq (n i : Nat) (s : St) : H_ref08_Value n i s = L_ref08_Value i n (headOf (an_ref08_Value.loops.lookup i) s) := rfl
noncomputable def R_ref08_Value (i : Nat) (s : St) : Option (E × St) := stepL Try.prog c_ref08_Value an_ref08_Value 36 (bodyOf Try.f25) i s
theorem lok_ref08_Value : okLoops (bodyOf Try.f25) = true := by kernel_rfl
theorem L_ref08_Value_zero (i : Nat) (s : St) : L_ref08_Value i 0 s = none := rfl
theorem L_ref08_Value_succ (i n : Nat) (s : St) : L_ref08_Value i (n + 1) s = andThen (R_ref08_Value i s) (H_ref08_Value n i) := atN_succ lok_ref08_Value i n s
theorem R_ref08_Value_eq (i : Nat) (s : St) : R_ref08_Value i s = runS Try.prog c_ref08_Value (H_ref08_Value bigL) an_ref08_Value 36 (loopAt (bodyOf Try.f25) i) s := rfl
theorem F_ref08_Value_eq (ds : List D) : F_ref08_Value ds = runG Try.prog c_ref08_Value (H_ref08_Value bigL) an_ref08_Value 36 (bodyOf Try.f25) [.tmp 6] ds := runG_eq lok_ref08_Value _ ds
theorem C_ref08_Value (ds : List D) (r : D) (h : F_ref08_Value ds = some r) : Contract Try.prog 25 ds r := contract_of mix Try.func25 rfl (by kernel_rfl) (by kernel_rfl) (callOf_ok cl_ref08_Value ⟨C_ref08_At, C_ref08_CheckGrid, C_ref08_Row, trivial⟩) h
-- sawmill/sawmilllaw08.CurveGrids: loops []; state: params 0..2, then [3, 6]
attribute [simp] Try.f6
noncomputable def an_law08_CurveGrids : Ann := ⟨[3, 6], [9], [], [], [], some [6], [(3, 13)]⟩
@[simp] theorem an_law08_CurveGrids_draws : an_law08_CurveGrids.draws = [(3, 13)] := rfl
@[simp] theorem an_law08_CurveGrids_exits : an_law08_CurveGrids.exits = [] := rfl
@[simp] theorem an_law08_CurveGrids_rets : an_law08_CurveGrids.rets = some [6] := rfl
@[simp] theorem an_law08_CurveGrids_keep : an_law08_CurveGrids.keep = [3, 6] := rfl
@[simp] theorem an_law08_CurveGrids_cond : an_law08_CurveGrids.cond = [9] := rfl
@[simp] theorem an_law08_CurveGrids_rows : an_law08_CurveGrids.rows = [] := rfl
@[simp] theorem an_law08_CurveGrids_loops : an_law08_CurveGrids.loops = [] := rfl
@[simp] noncomputable def cl_law08_CurveGrids : List (Nat × (List D → Option D)) := [(12, F_law08_awake), (21, F_law08_few), (22, F_curve_CheckGrid), (23, F_ref08_CheckGrid), (24, F_curve_Value), (25, F_ref08_Value)]
@[simp] noncomputable def c_law08_CurveGrids (f : FuncId) (ds : List D) : Option D := callOf cl_law08_CurveGrids f ds
noncomputable def F_law08_CurveGrids (ds : List D) : Option D := runF Try.prog c_law08_CurveGrids an_law08_CurveGrids 30 (bodyOf Try.f6) [.tmp 6] ds
noncomputable def L_law08_CurveGrids (i n : Nat) (s : St) : Option (E × St) := atN Try.prog c_law08_CurveGrids an_law08_CurveGrids 30 (bodyOf Try.f6) i n s
noncomputable def H_law08_CurveGrids (n i : Nat) (s : St) : Option (E × St) := atH Try.prog c_law08_CurveGrids an_law08_CurveGrids 30 (bodyOf Try.f6) n i s
@[simp] theorem H_law08_CurveGrids_eq (n i : Nat) (s : St) : H_law08_CurveGrids n i s = L_law08_CurveGrids i n (headOf (an_law08_CurveGrids.loops.lookup i) s) := rfl
noncomputable def R_law08_CurveGrids (i : Nat) (s : St) : Option (E × St) := stepL Try.prog c_law08_CurveGrids an_law08_CurveGrids 30 (bodyOf Try.f6) i s
theorem lok_law08_CurveGrids : okLoops (bodyOf Try.f6) = true := by kernel_rfl
theorem F_law08_CurveGrids_eq (ds : List D) : F_law08_CurveGrids ds = runG Try.prog c_law08_CurveGrids (H_law08_CurveGrids bigL) an_law08_CurveGrids 30 (bodyOf Try.f6) [.tmp 6] ds := runG_eq lok_law08_CurveGrids _ ds
theorem C_law08_CurveGrids (ds : List D) (r : D) (h : F_law08_CurveGrids ds = some r) : Contract Try.prog 6 ds r := contract_of mix Try.func6 rfl (by kernel_rfl) (by kernel_rfl) (callOf_ok cl_law08_CurveGrids ⟨C_law08_awake, C_law08_few, C_curve_CheckGrid, C_ref08_CheckGrid, C_curve_Value, C_ref08_Value, trivial⟩) h
-- sawmill/sawmilllaw08.CurveBetween: loops [5]; state: params 0..2, then [6, 7, 8, 9]
attribute [simp] Try.f7
noncomputable def an_law08_CurveBetween : Ann := ⟨[0, 1, 6, 7, 8, 9], [17, 25, 40, 93, 125, 140], [], [(5, [0, 1, 2, 7, 8])], [(0, [0, 1, 2, 7]), (1, [0, 1, 2, 7, 8])], some [6], [(7, 12), (9, 50)]⟩
@[simp] theorem an_law08_CurveBetween_draws : an_law08_CurveBetween.draws = [(7, 12), (9, 50)] := rfl
@[simp] theorem an_law08_CurveBetween_exits : an_law08_CurveBetween.exits = [(0, [0, 1, 2, 7]), (1, [0, 1, 2, 7, 8])] := rfl
@[simp] theorem an_law08_CurveBetween_rets : an_law08_CurveBetween.rets = some [6] := rfl
@[simp] theorem an_law08_CurveBetween_keep : an_law08_CurveBetween.keep = [0, 1, 6, 7, 8, 9] := rfl
@[simp] theorem an_law08_CurveBetween_cond : an_law08_CurveBetween.cond = [17, 25, 40, 93, 125, 140] := rfl
@[simp] theorem an_law08_CurveBetween_rows : an_law08_CurveBetween.rows = [] := rfl
@[simp] theorem an_law08_CurveBetween_loops : an_law08_CurveBetween.loops = [(5, [0, 1, 2, 7, 8])] := rfl
@[simp] noncomputable def cl_law08_CurveBetween : List (Nat × (List D → Option D)) := [(11, F_law08_small), (12, F_law08_awake), (14, F_ref08_Check), (15, F_curve_Rising), (17, F_curve_At)]
@[simp] noncomputable def c_law08_CurveBetween (f : FuncId) (ds : List D) : Option D := callOf cl_law08_CurveBetween f ds
noncomputable def F_law08_CurveBetween (ds : List D) : Option D := runF Try.prog c_law08_CurveBetween an_law08_CurveBetween 142 (bodyOf Try.f7) [.tmp 6] ds
noncomputable def L_law08_CurveBetween (i n : Nat) (s : St) : Option (E × St) := atN Try.prog c_law08_CurveBetween an_law08_CurveBetween 142 (bodyOf Try.f7) i n s
noncomputable def H_law08_CurveBetween (n i : Nat) (s : St) : Option (E × St) := atH Try.prog c_law08_CurveBetween an_law08_CurveBetween 142 (bodyOf Try.f7) n i s
@[simp] theorem H_law08_CurveBetween_eq (n i : Nat) (s : St) : H_law08_CurveBetween n i s = L_law08_CurveBetween i n (headOf (an_law08_CurveBetween.loops.lookup i) s) := rfl
noncomputable def R_law08_CurveBetween (i : Nat) (s : St) : Option (E × St) := stepL Try.prog c_law08_CurveBetween an_law08_CurveBetween 142 (bodyOf Try.f7) i s
theorem lok_law08_CurveBetween : okLoops (bodyOf Try.f7) = true := by kernel_rfl
theorem L_law08_CurveBetween_zero (i : Nat) (s : St) : L_law08_CurveBetween i 0 s = none := rfl
theorem L_law08_CurveBetween_succ (i n : Nat) (s : St) : L_law08_CurveBetween i (n + 1) s = andThen (R_law08_CurveBetween i s) (H_law08_CurveBetween n i) := atN_succ lok_law08_CurveBetween i n s
theorem R_law08_CurveBetween_eq (i : Nat) (s : St) : R_law08_CurveBetween i s = runS Try.prog c_law08_CurveBetween (H_law08_CurveBetween bigL) an_law08_CurveBetween 142 (loopAt (bodyOf Try.f7) i) s := rfl
theorem F_law08_CurveBetween_eq (ds : List D) : F_law08_CurveBetween ds = runG Try.prog c_law08_CurveBetween (H_law08_CurveBetween bigL) an_law08_CurveBetween 142 (bodyOf Try.f7) [.tmp 6] ds := runG_eq lok_law08_CurveBetween _ ds
theorem C_law08_CurveBetween (ds : List D) (r : D) (h : F_law08_CurveBetween ds = some r) : Contract Try.prog 7 ds r := contract_of mix Try.func7 rfl (by kernel_rfl) (by kernel_rfl) (callOf_ok cl_law08_CurveBetween ⟨C_law08_small, C_law08_awake, C_ref08_Check, C_curve_Rising, C_curve_At, trivial⟩) h
-- sawmill/sawmilllaw08.CurveFirst: loops [6]; state: params 0..2, then [6, 7, 8, 9, 10]
attribute [simp] Try.f8
noncomputable def an_law08_CurveFirst : Ann := ⟨[0, 1, 2, 6, 7, 8, 9, 10], [18, 29, 44, 46, 82, 96], [], [(6, [0, 1, 2, 7, 8, 9, 10])], [(0, [0, 1, 2, 7, 8, 9]), (1, [0, 1, 2, 7, 8, 9, 10])], some [6], []⟩
@[simp] theorem an_law08_CurveFirst_draws : an_law08_CurveFirst.draws = [] := rfl
@[simp] theorem an_law08_CurveFirst_exits : an_law08_CurveFirst.exits = [(0, [0, 1, 2, 7, 8, 9]), (1, [0, 1, 2, 7, 8, 9, 10])] := rfl
@[simp] theorem an_law08_CurveFirst_rets : an_law08_CurveFirst.rets = some [6] := rfl
@[simp] theorem an_law08_CurveFirst_keep : an_law08_CurveFirst.keep = [0, 1, 2, 6, 7, 8, 9, 10] := rfl
@[simp] theorem an_law08_CurveFirst_cond : an_law08_CurveFirst.cond = [18, 29, 44, 46, 82, 96] := rfl
@[simp] theorem an_law08_CurveFirst_rows : an_law08_CurveFirst.rows = [] := rfl
@[simp] theorem an_law08_CurveFirst_loops : an_law08_CurveFirst.loops = [(6, [0, 1, 2, 7, 8, 9, 10])] := rfl
@[simp] noncomputable def cl_law08_CurveFirst : List (Nat × (List D → Option D)) := [(11, F_law08_small), (12, F_law08_awake), (14, F_ref08_Check), (17, F_curve_At), (19, F_curve_Reach)]
@[simp] noncomputable def c_law08_CurveFirst (f : FuncId) (ds : List D) : Option D := callOf cl_law08_CurveFirst f ds
noncomputable def F_law08_CurveFirst (ds : List D) : Option D := runF Try.prog c_law08_CurveFirst an_law08_CurveFirst 118 (bodyOf Try.f8) [.tmp 6] ds
noncomputable def L_law08_CurveFirst (i n : Nat) (s : St) : Option (E × St) := atN Try.prog c_law08_CurveFirst an_law08_CurveFirst 118 (bodyOf Try.f8) i n s
noncomputable def H_law08_CurveFirst (n i : Nat) (s : St) : Option (E × St) := atH Try.prog c_law08_CurveFirst an_law08_CurveFirst 118 (bodyOf Try.f8) n i s
@[simp] theorem H_law08_CurveFirst_eq (n i : Nat) (s : St) : H_law08_CurveFirst n i s = L_law08_CurveFirst i n (headOf (an_law08_CurveFirst.loops.lookup i) s) := rfl
noncomputable def R_law08_CurveFirst (i : Nat) (s : St) : Option (E × St) := stepL Try.prog c_law08_CurveFirst an_law08_CurveFirst 118 (bodyOf Try.f8) i s
theorem lok_law08_CurveFirst : okLoops (bodyOf Try.f8) = true := by kernel_rfl
theorem L_law08_CurveFirst_zero (i : Nat) (s : St) : L_law08_CurveFirst i 0 s = none := rfl
theorem L_law08_CurveFirst_succ (i n : Nat) (s : St) : L_law08_CurveFirst i (n + 1) s = andThen (R_law08_CurveFirst i s) (H_law08_CurveFirst n i) := atN_succ lok_law08_CurveFirst i n s
theorem R_law08_CurveFirst_eq (i : Nat) (s : St) : R_law08_CurveFirst i s = runS Try.prog c_law08_CurveFirst (H_law08_CurveFirst bigL) an_law08_CurveFirst 118 (loopAt (bodyOf Try.f8) i) s := rfl
theorem F_law08_CurveFirst_eq (ds : List D) : F_law08_CurveFirst ds = runG Try.prog c_law08_CurveFirst (H_law08_CurveFirst bigL) an_law08_CurveFirst 118 (bodyOf Try.f8) [.tmp 6] ds := runG_eq lok_law08_CurveFirst _ ds
theorem C_law08_CurveFirst (ds : List D) (r : D) (h : F_law08_CurveFirst ds = some r) : Contract Try.prog 8 ds r := contract_of mix Try.func8 rfl (by kernel_rfl) (by kernel_rfl) (callOf_ok cl_law08_CurveFirst ⟨C_law08_small, C_law08_awake, C_ref08_Check, C_curve_At, C_curve_Reach, trivial⟩) h
-- sawmill/sawmilllaw08.CurveTables: loops [5, 8]; state: params 0..2, then [3, 6, 7, 8, 9, 10, 11, 12]
attribute [simp] Try.f9
noncomputable def an_law08_CurveTables : Ann := ⟨[3, 6, 7, 8, 9, 10, 11, 12], [20, 38, 45, 75], [], [(5, [1, 2, 3, 7, 8, 9]), (8, [1, 2, 3, 7, 8, 9, 10])], [(0, [1, 2, 3, 7, 8]), (1, [1, 2, 3, 7, 8, 9]), (2, [1, 2, 3, 7, 8, 9]), (3, [1, 2, 3, 7, 8, 9, 10])], some [6], [(3, 13), (12, 13)]⟩
@[simp] theorem an_law08_CurveTables_draws : an_law08_CurveTables.draws = [(3, 13), (12, 13)] := rfl
@[simp] theorem an_law08_CurveTables_exits : an_law08_CurveTables.exits = [(0, [1, 2, 3, 7, 8]), (1, [1, 2, 3, 7, 8, 9]), (2, [1, 2, 3, 7, 8, 9]), (3, [1, 2, 3, 7, 8, 9, 10])] := rfl
@[simp] theorem an_law08_CurveTables_rets : an_law08_CurveTables.rets = some [6] := rfl
@[simp] theorem an_law08_CurveTables_keep : an_law08_CurveTables.keep = [3, 6, 7, 8, 9, 10, 11, 12] := rfl
@[simp] theorem an_law08_CurveTables_cond : an_law08_CurveTables.cond = [20, 38, 45, 75] := rfl
@[simp] theorem an_law08_CurveTables_rows : an_law08_CurveTables.rows = [] := rfl
@[simp] theorem an_law08_CurveTables_loops : an_law08_CurveTables.loops = [(5, [1, 2, 3, 7, 8, 9]), (8, [1, 2, 3, 7, 8, 9, 10])] := rfl
@[simp] noncomputable def cl_law08_CurveTables : List (Nat × (List D → Option D)) := [(12, F_law08_awake), (21, F_law08_few), (23, F_ref08_CheckGrid), (24, F_curve_Value)]
@[simp] noncomputable def c_law08_CurveTables (f : FuncId) (ds : List D) : Option D := callOf cl_law08_CurveTables f ds
noncomputable def F_law08_CurveTables (ds : List D) : Option D := runF Try.prog c_law08_CurveTables an_law08_CurveTables 91 (bodyOf Try.f9) [.tmp 6] ds
noncomputable def L_law08_CurveTables (i n : Nat) (s : St) : Option (E × St) := atN Try.prog c_law08_CurveTables an_law08_CurveTables 91 (bodyOf Try.f9) i n s
noncomputable def H_law08_CurveTables (n i : Nat) (s : St) : Option (E × St) := atH Try.prog c_law08_CurveTables an_law08_CurveTables 91 (bodyOf Try.f9) n i s
@[simp] theorem H_law08_CurveTables_eq (n i : Nat) (s : St) : H_law08_CurveTables n i s = L_law08_CurveTables i n (headOf (an_law08_CurveTables.loops.lookup i) s) := rfl
noncomputable def R_law08_CurveTables (i : Nat) (s : St) : Option (E × St) := stepL Try.prog c_law08_CurveTables an_law08_CurveTables 91 (bodyOf Try.f9) i s
theorem lok_law08_CurveTables : okLoops (bodyOf Try.f9) = true := by kernel_rfl
theorem L_law08_CurveTables_zero (i : Nat) (s : St) : L_law08_CurveTables i 0 s = none := rfl
theorem L_law08_CurveTables_succ (i n : Nat) (s : St) : L_law08_CurveTables i (n + 1) s = andThen (R_law08_CurveTables i s) (H_law08_CurveTables n i) := atN_succ lok_law08_CurveTables i n s
theorem R_law08_CurveTables_eq (i : Nat) (s : St) : R_law08_CurveTables i s = runS Try.prog c_law08_CurveTables (H_law08_CurveTables bigL) an_law08_CurveTables 91 (loopAt (bodyOf Try.f9) i) s := rfl
theorem F_law08_CurveTables_eq (ds : List D) : F_law08_CurveTables ds = runG Try.prog c_law08_CurveTables (H_law08_CurveTables bigL) an_law08_CurveTables 91 (bodyOf Try.f9) [.tmp 6] ds := runG_eq lok_law08_CurveTables _ ds
theorem C_law08_CurveTables (ds : List D) (r : D) (h : F_law08_CurveTables ds = some r) : Contract Try.prog 9 ds r := contract_of mix Try.func9 rfl (by kernel_rfl) (by kernel_rfl) (callOf_ok cl_law08_CurveTables ⟨C_law08_awake, C_law08_few, C_ref08_CheckGrid, C_curve_Value, trivial⟩) h
-- sawmill/sawmilllaw08.CurveRow: loops [6]; state: params 0..2, then [6, 7, 8, 9, 10]
attribute [simp] Try.f10
noncomputable def an_law08_CurveRow : Ann := ⟨[0, 1, 2, 6, 7, 8, 9, 10], [26, 38], [42, 52, 56, 66, 76], [(6, [0, 1, 2, 7, 8, 9])], [(0, [0, 1, 2, 7, 8]), (1, [0, 1, 2, 7, 8, 9])], some [6], [(8, 8), (9, 13), (10, 8), (11, 9)]⟩
@[simp] theorem an_law08_CurveRow_draws : an_law08_CurveRow.draws = [(8, 8), (9, 13), (10, 8), (11, 9)] := rfl
@[simp] theorem an_law08_CurveRow_exits : an_law08_CurveRow.exits = [(0, [0, 1, 2, 7, 8]), (1, [0, 1, 2, 7, 8, 9])] := rfl
@[simp] theorem an_law08_CurveRow_rets : an_law08_CurveRow.rets = some [6] := rfl
@[simp] theorem an_law08_CurveRow_keep : an_law08_CurveRow.keep = [0, 1, 2, 6, 7, 8, 9, 10] := rfl
@[simp] theorem an_law08_CurveRow_cond : an_law08_CurveRow.cond = [26, 38] := rfl
@[simp] theorem an_law08_CurveRow_rows : an_law08_CurveRow.rows = [42, 52, 56, 66, 76] := rfl
@[simp] theorem an_law08_CurveRow_loops : an_law08_CurveRow.loops = [(6, [0, 1, 2, 7, 8, 9])] := rfl
@[simp] noncomputable def cl_law08_CurveRow : List (Nat × (List D → Option D)) := [(11, F_law08_small), (12, F_law08_awake), (13, F_curve_Check), (17, F_curve_At), (22, F_curve_CheckGrid), (24, F_curve_Value)]
@[simp] noncomputable def c_law08_CurveRow (f : FuncId) (ds : List D) : Option D := callOf cl_law08_CurveRow f ds
noncomputable def F_law08_CurveRow (ds : List D) : Option D := runF Try.prog c_law08_CurveRow an_law08_CurveRow 116 (bodyOf Try.f10) [.tmp 6] ds
noncomputable def L_law08_CurveRow (i n : Nat) (s : St) : Option (E × St) := atN Try.prog c_law08_CurveRow an_law08_CurveRow 116 (bodyOf Try.f10) i n s
noncomputable def H_law08_CurveRow (n i : Nat) (s : St) : Option (E × St) := atH Try.prog c_law08_CurveRow an_law08_CurveRow 116 (bodyOf Try.f10) n i s
@[simp] theorem H_law08_CurveRow_eq (n i : Nat) (s : St) : H_law08_CurveRow n i s = L_law08_CurveRow i n (headOf (an_law08_CurveRow.loops.lookup i) s) := rfl
noncomputable def R_law08_CurveRow (i : Nat) (s : St) : Option (E × St) := stepL Try.prog c_law08_CurveRow an_law08_CurveRow 116 (bodyOf Try.f10) i s
theorem lok_law08_CurveRow : okLoops (bodyOf Try.f10) = true := by kernel_rfl
theorem L_law08_CurveRow_zero (i : Nat) (s : St) : L_law08_CurveRow i 0 s = none := rfl
theorem L_law08_CurveRow_succ (i n : Nat) (s : St) : L_law08_CurveRow i (n + 1) s = andThen (R_law08_CurveRow i s) (H_law08_CurveRow n i) := atN_succ lok_law08_CurveRow i n s
theorem R_law08_CurveRow_eq (i : Nat) (s : St) : R_law08_CurveRow i s = runS Try.prog c_law08_CurveRow (H_law08_CurveRow bigL) an_law08_CurveRow 116 (loopAt (bodyOf Try.f10) i) s := rfl
theorem F_law08_CurveRow_eq (ds : List D) : F_law08_CurveRow ds = runG Try.prog c_law08_CurveRow (H_law08_CurveRow bigL) an_law08_CurveRow 116 (bodyOf Try.f10) [.tmp 6] ds := runG_eq lok_law08_CurveRow _ ds
theorem C_law08_CurveRow (ds : List D) (r : D) (h : F_law08_CurveRow ds = some r) : Contract Try.prog 10 ds r := contract_of mix Try.func10 rfl (by kernel_rfl) (by kernel_rfl) (callOf_ok cl_law08_CurveRow ⟨C_law08_small, C_law08_awake, C_curve_Check, C_curve_At, C_curve_CheckGrid, C_curve_Value, trivial⟩) h
end Go.Proofs.Ytcgghmmljpikdaa
