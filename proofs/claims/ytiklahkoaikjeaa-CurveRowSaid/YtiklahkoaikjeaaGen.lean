/-
  Printed by gen.py for this seat: facts about the types that the laws reach; for each function its annotation (what is kept behind a region, which rows are a variable's own, what is alive at the head of a loop), its abstract run, and that the run is its contract.
-/
import Derived.Test.YtiklahkoaikjeaaAbs3
import Derived.Test.YtiklahkoaikjeaaRows
namespace Go.Proofs.Ytiklahkoaikjeaa
open Go Go.Abs
set_option maxRecDepth 100000
set_option linter.unusedSimpArgs false
set_option linter.unusedVariables false
theorem mix : Try.prog.follows .mixedOrders = true := by kernel_rfl
theorem laid : laidOutB Try.prog = true := by kernel_rfl
@[simp] noncomputable def gl (g : Nat) : Option (List D) := none
-- 0 ()
attribute [simp] Try.underlying0
@[simp] theorem sz0 : szT Try.prog 0 = some 1 := by kernel_rfl
@[simp] theorem co0 : Try.prog.cellsOf 0 = 1 := by kernel_rfl
@[simp] theorem ag0 : aggT Try.prog 0 = some false := by kernel_rfl
-- 1 func()
attribute [simp] Try.underlying1
@[simp] theorem sz1 : szT Try.prog 1 = some 1 := by kernel_rfl
@[simp] theorem co1 : Try.prog.cellsOf 1 = 1 := by kernel_rfl
@[simp] theorem ag1 : aggT Try.prog 1 = some false := by kernel_rfl
@[simp] theorem zr1 : zeroD Try.prog 1 = some [.x .nilFunc] := by kernel_rfl
-- 2 int64
attribute [simp] Try.underlying2
@[simp] theorem sz2 : szT Try.prog 2 = some 1 := by kernel_rfl
@[simp] theorem co2 : Try.prog.cellsOf 2 = 1 := by kernel_rfl
@[simp] theorem ag2 : aggT Try.prog 2 = some false := by kernel_rfl
@[simp] theorem zr2 : zeroD Try.prog 2 = some [.x (.int .i64 0)] := by kernel_rfl
-- 3 int
attribute [simp] Try.underlying3
@[simp] theorem sz3 : szT Try.prog 3 = some 1 := by kernel_rfl
@[simp] theorem co3 : Try.prog.cellsOf 3 = 1 := by kernel_rfl
@[simp] theorem ag3 : aggT Try.prog 3 = some false := by kernel_rfl
@[simp] theorem zr3 : zeroD Try.prog 3 = some [.x (.int .i64 0)] := by kernel_rfl
-- 4 bool
attribute [simp] Try.underlying4
@[simp] theorem sz4 : szT Try.prog 4 = some 1 := by kernel_rfl
@[simp] theorem co4 : Try.prog.cellsOf 4 = 1 := by kernel_rfl
@[simp] theorem ag4 : aggT Try.prog 4 = some false := by kernel_rfl
@[simp] theorem zr4 : zeroD Try.prog 4 = some [.x (.bool false)] := by kernel_rfl
-- 22 []api.Point
attribute [simp] Try.underlying22
@[simp] theorem sz22 : szT Try.prog 22 = some 1 := by kernel_rfl
@[simp] theorem co22 : Try.prog.cellsOf 22 = 1 := by kernel_rfl
@[simp] theorem ag22 : aggT Try.prog 22 = some false := by kernel_rfl
@[simp] theorem zr22 : zeroD Try.prog 22 = some [.emp] := by kernel_rfl
@[simp] theorem mk22 : mkT Try.prog 22 = some (32, 2, 16, [.x (.int .i64 0), .x (.int .i64 0)]) := by kernel_rfl
@[simp] theorem ap22 : appT Try.prog 22 = some (32, 2, 16) := by kernel_rfl
-- 24 api.Errno
attribute [simp] Try.underlying24
@[simp] theorem sz24 : szT Try.prog 24 = some 1 := by kernel_rfl
@[simp] theorem co24 : Try.prog.cellsOf 24 = 1 := by kernel_rfl
@[simp] theorem ag24 : aggT Try.prog 24 = some false := by kernel_rfl
@[simp] theorem zr24 : zeroD Try.prog 24 = some [.x (.int .i64 0)] := by kernel_rfl
-- 27 []int
attribute [simp] Try.underlying27
@[simp] theorem sz27 : szT Try.prog 27 = some 1 := by kernel_rfl
@[simp] theorem co27 : Try.prog.cellsOf 27 = 1 := by kernel_rfl
@[simp] theorem ag27 : aggT Try.prog 27 = some false := by kernel_rfl
@[simp] theorem zr27 : zeroD Try.prog 27 = some [.emp] := by kernel_rfl
@[simp] theorem mk27 : mkT Try.prog 27 = some (3, 1, 8, [.x (.int .i64 0)]) := by kernel_rfl
@[simp] theorem ap27 : appT Try.prog 27 = some (3, 1, 8) := by kernel_rfl
-- 28 [][]int
attribute [simp] Try.underlying28
@[simp] theorem sz28 : szT Try.prog 28 = some 1 := by kernel_rfl
@[simp] theorem co28 : Try.prog.cellsOf 28 = 1 := by kernel_rfl
@[simp] theorem ag28 : aggT Try.prog 28 = some false := by kernel_rfl
@[simp] theorem zr28 : zeroD Try.prog 28 = some [.emp] := by kernel_rfl
@[simp] theorem mk28 : mkT Try.prog 28 = some (27, 1, 24, [.emp]) := by kernel_rfl
@[simp] theorem ap28 : appT Try.prog 28 = some (27, 1, 24) := by kernel_rfl
-- 30 api.Grid
attribute [simp] Try.underlying30
@[simp] theorem sz30 : szT Try.prog 30 = some 3 := by kernel_rfl
@[simp] theorem co30 : Try.prog.cellsOf 30 = 3 := by kernel_rfl
@[simp] theorem ag30 : aggT Try.prog 30 = some true := by kernel_rfl
@[simp] theorem zr30 : zeroD Try.prog 30 = some [.emp, .emp, .emp] := by kernel_rfl
@[simp] theorem bt30 : buildT Try.prog 30 = some ([(0, 1), (1, 1), (2, 1)], [.emp, .emp, .emp]) := by kernel_rfl
@[simp] theorem st30 : Try.prog.stoodInHeld 30 = false := by kernel_rfl
@[simp] theorem eg30 : Try.prog.eqGuardType Try.prog.depth 30 = false := by kernel_rfl
-- 32 api.Point
attribute [simp] Try.underlying32
@[simp] theorem sz32 : szT Try.prog 32 = some 2 := by kernel_rfl
@[simp] theorem co32 : Try.prog.cellsOf 32 = 2 := by kernel_rfl
@[simp] theorem ag32 : aggT Try.prog 32 = some true := by kernel_rfl
@[simp] theorem zr32 : zeroD Try.prog 32 = some [.x (.int .i64 0), .x (.int .i64 0)] := by kernel_rfl
@[simp] theorem bt32 : buildT Try.prog 32 = some ([(0, 1), (1, 1)], [.x (.int .i64 0), .x (.int .i64 0)]) := by kernel_rfl
@[simp] theorem st32 : Try.prog.stoodInHeld 32 = false := by kernel_rfl
@[simp] theorem eg32 : Try.prog.eqGuardType Try.prog.depth 32 = false := by kernel_rfl
-- 38 (int, bool)
attribute [simp] Try.underlying38
@[simp] theorem sz38 : szT Try.prog 38 = some 1 := by kernel_rfl
@[simp] theorem co38 : Try.prog.cellsOf 38 = 1 := by kernel_rfl
@[simp] theorem ag38 : aggT Try.prog 38 = some false := by kernel_rfl
-- 42 [16]int
attribute [simp] Try.underlying42
@[simp] theorem sz42 : szT Try.prog 42 = some 16 := by kernel_rfl
@[simp] theorem co42 : Try.prog.cellsOf 42 = 16 := by kernel_rfl
@[simp] theorem ag42 : aggT Try.prog 42 = some true := by kernel_rfl
@[simp] theorem zr42 : zeroD Try.prog 42 = some [.x (.int .i64 0), .x (.int .i64 0), .x (.int .i64 0), .x (.int .i64 0), .x (.int .i64 0), .x (.int .i64 0), .x (.int .i64 0), .x (.int .i64 0), .x (.int .i64 0), .x (.int .i64 0), .x (.int .i64 0), .x (.int .i64 0), .x (.int .i64 0), .x (.int .i64 0), .x (.int .i64 0), .x (.int .i64 0)] := by kernel_rfl
@[simp] theorem bt42 : buildT Try.prog 42 = some ([(0, 1), (1, 1), (2, 1), (3, 1), (4, 1), (5, 1), (6, 1), (7, 1), (8, 1), (9, 1), (10, 1), (11, 1), (12, 1), (13, 1), (14, 1), (15, 1)], [.x (.int .i64 0), .x (.int .i64 0), .x (.int .i64 0), .x (.int .i64 0), .x (.int .i64 0), .x (.int .i64 0), .x (.int .i64 0), .x (.int .i64 0), .x (.int .i64 0), .x (.int .i64 0), .x (.int .i64 0), .x (.int .i64 0), .x (.int .i64 0), .x (.int .i64 0), .x (.int .i64 0), .x (.int .i64 0)]) := by kernel_rfl
@[simp] theorem eg42 : Try.prog.eqGuardType Try.prog.depth 42 = false := by kernel_rfl
-- sawmill/sawmilllaw08.small: loops []; state: params 0..0, then [2]
attribute [simp] Try.f4
noncomputable def an_law08_small : Ann := ⟨[2], [], [], [], [], some [2], [], [], [], []⟩
@[simp] theorem an_law08_small_draws : an_law08_small.draws = [] := rfl
@[simp] theorem an_law08_small_exits : an_law08_small.exits = [] := rfl
@[simp] theorem an_law08_small_rets : an_law08_small.rets = some [2] := rfl
@[simp] theorem an_law08_small_keep : an_law08_small.keep = [2] := rfl
@[simp] theorem an_law08_small_cond : an_law08_small.cond = [] := rfl
@[simp] theorem an_law08_small_rows : an_law08_small.rows = [] := rfl
@[simp] theorem an_law08_small_loops : an_law08_small.loops = [] := rfl
@[simp] theorem an_law08_small_ecalls : an_law08_small.ecalls = [] := rfl
@[simp] theorem an_law08_small_crows : an_law08_small.crows = [] := rfl
@[simp] theorem an_law08_small_tails : an_law08_small.tails = [] := rfl
@[simp] noncomputable def cl_law08_small : List (Nat × (List D → Option D)) := []
@[simp] noncomputable def ce_law08_small : List (Nat × (List (Nat × O) → List D → Option (D × List (Nat × O)))) := []
noncomputable def c_law08_small : CT := ⟨callOf (cl_law08_small ), callOfE ce_law08_small, gl⟩
@[simp] theorem c_law08_small_p (f : FuncId) (ds : List D) : c_law08_small.p f ds = callOf (cl_law08_small ) f ds := Eq.trans rfl rfl
@[simp] theorem c_law08_small_e (f : FuncId) (hs : List (Nat × O)) (ds : List D) : c_law08_small.e f hs ds = callOfE ce_law08_small f hs ds := Eq.trans rfl rfl
@[simp] theorem c_law08_small_g (g : Nat) : c_law08_small.g g = gl g := Eq.trans rfl rfl
noncomputable def L_law08_small (i n : Nat) (s : St) : Option (E × St) := atN Try.prog c_law08_small an_law08_small 6 (bodyOf Try.f4) i n s
noncomputable def H_law08_small (n i : Nat) (s : St) : Option (E × St) := atH Try.prog c_law08_small an_law08_small 6 (bodyOf Try.f4) n i s
@[simp] theorem H_law08_small_eq (n i : Nat) (s : St) : H_law08_small n i s = L_law08_small i n (headOf (an_law08_small.loops.lookup i) s) := rfl
noncomputable def R_law08_small (i : Nat) (s : St) : Option (E × St) := stepL Try.prog c_law08_small an_law08_small 6 (bodyOf Try.f4) i s
theorem lok_law08_small : okLoops (bodyOf Try.f4) = true := by kernel_rfl
noncomputable def F_law08_small (ds : List D) : Option D := runF Try.prog c_law08_small an_law08_small 6 (bodyOf Try.f4) [.tmp 2] ds
theorem F_law08_small_eq (ds : List D) : F_law08_small ds = runG Try.prog c_law08_small (H_law08_small bigL) an_law08_small 6 (bodyOf Try.f4) [.tmp 2] ds := runG_eq lok_law08_small _ ds
theorem C_law08_small (ds : List D) (r : D) (h : F_law08_small ds = some r) : Contract Try.prog gl 4 ds r := contract_of mix Try.func4 rfl (by kernel_rfl) (by kernel_rfl) (by decide) (call := c_law08_small) ⟨callOf_ok cl_law08_small trivial, callOfE_ok ce_law08_small trivial⟩ h
-- sawmill/curve.inRange: loops []; state: params 0..0, then [2]
attribute [simp] Try.f10
noncomputable def an_curve_inRange : Ann := ⟨[2], [], [], [], [], some [2], [], [], [], []⟩
@[simp] theorem an_curve_inRange_draws : an_curve_inRange.draws = [] := rfl
@[simp] theorem an_curve_inRange_exits : an_curve_inRange.exits = [] := rfl
@[simp] theorem an_curve_inRange_rets : an_curve_inRange.rets = some [2] := rfl
@[simp] theorem an_curve_inRange_keep : an_curve_inRange.keep = [2] := rfl
@[simp] theorem an_curve_inRange_cond : an_curve_inRange.cond = [] := rfl
@[simp] theorem an_curve_inRange_rows : an_curve_inRange.rows = [] := rfl
@[simp] theorem an_curve_inRange_loops : an_curve_inRange.loops = [] := rfl
@[simp] theorem an_curve_inRange_ecalls : an_curve_inRange.ecalls = [] := rfl
@[simp] theorem an_curve_inRange_crows : an_curve_inRange.crows = [] := rfl
@[simp] theorem an_curve_inRange_tails : an_curve_inRange.tails = [] := rfl
@[simp] noncomputable def cl_curve_inRange : List (Nat × (List D → Option D)) := []
@[simp] noncomputable def ce_curve_inRange : List (Nat × (List (Nat × O) → List D → Option (D × List (Nat × O)))) := []
noncomputable def c_curve_inRange : CT := ⟨callOf (cl_curve_inRange ), callOfE ce_curve_inRange, gl⟩
@[simp] theorem c_curve_inRange_p (f : FuncId) (ds : List D) : c_curve_inRange.p f ds = callOf (cl_curve_inRange ) f ds := Eq.trans rfl rfl
@[simp] theorem c_curve_inRange_e (f : FuncId) (hs : List (Nat × O)) (ds : List D) : c_curve_inRange.e f hs ds = callOfE ce_curve_inRange f hs ds := Eq.trans rfl rfl
@[simp] theorem c_curve_inRange_g (g : Nat) : c_curve_inRange.g g = gl g := Eq.trans rfl rfl
noncomputable def L_curve_inRange (i n : Nat) (s : St) : Option (E × St) := atN Try.prog c_curve_inRange an_curve_inRange 9 (bodyOf Try.f10) i n s
noncomputable def H_curve_inRange (n i : Nat) (s : St) : Option (E × St) := atH Try.prog c_curve_inRange an_curve_inRange 9 (bodyOf Try.f10) n i s
@[simp] theorem H_curve_inRange_eq (n i : Nat) (s : St) : H_curve_inRange n i s = L_curve_inRange i n (headOf (an_curve_inRange.loops.lookup i) s) := rfl
noncomputable def R_curve_inRange (i : Nat) (s : St) : Option (E × St) := stepL Try.prog c_curve_inRange an_curve_inRange 9 (bodyOf Try.f10) i s
theorem lok_curve_inRange : okLoops (bodyOf Try.f10) = true := by kernel_rfl
noncomputable def F_curve_inRange (ds : List D) : Option D := runF Try.prog c_curve_inRange an_curve_inRange 9 (bodyOf Try.f10) [.tmp 2] ds
theorem F_curve_inRange_eq (ds : List D) : F_curve_inRange ds = runG Try.prog c_curve_inRange (H_curve_inRange bigL) an_curve_inRange 9 (bodyOf Try.f10) [.tmp 2] ds := runG_eq lok_curve_inRange _ ds
theorem C_curve_inRange (ds : List D) (r : D) (h : F_curve_inRange ds = some r) : Contract Try.prog gl 10 ds r := contract_of mix Try.func10 rfl (by kernel_rfl) (by kernel_rfl) (by decide) (call := c_curve_inRange) ⟨callOf_ok cl_curve_inRange trivial, callOfE_ok ce_curve_inRange trivial⟩ h
-- sawmill/curve.Check: loops [6]; state: params 0..0, then [2, 3, 4, 11, 12, 13]
attribute [simp] Try.f5
noncomputable def an_curve_Check : Ann := ⟨[0, 2, 3, 4, 11, 12, 13], [7, 10, 14, 27, 40], [], [(6, [0, 11, 12, 13])], [(0, []), (1, [0, 11, 12, 13])], some [2], [(10, 11)], [], [], []⟩
@[simp] theorem an_curve_Check_draws : an_curve_Check.draws = [(10, 11)] := rfl
@[simp] theorem an_curve_Check_exits : an_curve_Check.exits = [(0, []), (1, [0, 11, 12, 13])] := rfl
@[simp] theorem an_curve_Check_rets : an_curve_Check.rets = some [2] := rfl
@[simp] theorem an_curve_Check_keep : an_curve_Check.keep = [0, 2, 3, 4, 11, 12, 13] := rfl
@[simp] theorem an_curve_Check_cond : an_curve_Check.cond = [7, 10, 14, 27, 40] := rfl
@[simp] theorem an_curve_Check_rows : an_curve_Check.rows = [] := rfl
@[simp] theorem an_curve_Check_loops : an_curve_Check.loops = [(6, [0, 11, 12, 13])] := rfl
@[simp] theorem an_curve_Check_ecalls : an_curve_Check.ecalls = [] := rfl
@[simp] theorem an_curve_Check_crows : an_curve_Check.crows = [] := rfl
@[simp] theorem an_curve_Check_tails : an_curve_Check.tails = [] := rfl
@[simp] noncomputable def cl_curve_Check : List (Nat × (List D → Option D)) := [(10, F_curve_inRange)]
@[simp] noncomputable def ce_curve_Check : List (Nat × (List (Nat × O) → List D → Option (D × List (Nat × O)))) := []
noncomputable def c_curve_Check : CT := ⟨callOf (cl_curve_Check ), callOfE ce_curve_Check, gl⟩
@[simp] theorem c_curve_Check_p (f : FuncId) (ds : List D) : c_curve_Check.p f ds = callOf (cl_curve_Check ) f ds := Eq.trans rfl rfl
@[simp] theorem c_curve_Check_e (f : FuncId) (hs : List (Nat × O)) (ds : List D) : c_curve_Check.e f hs ds = callOfE ce_curve_Check f hs ds := Eq.trans rfl rfl
@[simp] theorem c_curve_Check_g (g : Nat) : c_curve_Check.g g = gl g := Eq.trans rfl rfl
noncomputable def L_curve_Check (i n : Nat) (s : St) : Option (E × St) := atN Try.prog c_curve_Check an_curve_Check 42 (bodyOf Try.f5) i n s
noncomputable def H_curve_Check (n i : Nat) (s : St) : Option (E × St) := atH Try.prog c_curve_Check an_curve_Check 42 (bodyOf Try.f5) n i s
@[simp] theorem H_curve_Check_eq (n i : Nat) (s : St) : H_curve_Check n i s = L_curve_Check i n (headOf (an_curve_Check.loops.lookup i) s) := rfl
noncomputable def R_curve_Check (i : Nat) (s : St) : Option (E × St) := stepL Try.prog c_curve_Check an_curve_Check 42 (bodyOf Try.f5) i s
theorem lok_curve_Check : okLoops (bodyOf Try.f5) = true := by kernel_rfl
theorem L_curve_Check_succ (i n : Nat) (s : St) : L_curve_Check i (n + 1) s = andThen (R_curve_Check i s) (H_curve_Check n i) := atN_succ lok_curve_Check (by kernel_rfl) i n s
theorem R_curve_Check_eq (i : Nat) (s : St) : R_curve_Check i s = runS Try.prog c_curve_Check (H_curve_Check bigL) an_curve_Check 42 (loopAt (bodyOf Try.f5) i) s := rfl
noncomputable def F_curve_Check (ds : List D) : Option D := runF Try.prog c_curve_Check an_curve_Check 42 (bodyOf Try.f5) [.tmp 2] ds
theorem F_curve_Check_eq (ds : List D) : F_curve_Check ds = runG Try.prog c_curve_Check (H_curve_Check bigL) an_curve_Check 42 (bodyOf Try.f5) [.tmp 2] ds := runG_eq lok_curve_Check _ ds
theorem C_curve_Check (ds : List D) (r : D) (h : F_curve_Check ds = some r) : Contract Try.prog gl 5 ds r := contract_of mix Try.func5 rfl (by kernel_rfl) (by kernel_rfl) (by decide) (call := c_curve_Check) ⟨callOf_ok cl_curve_Check ⟨C_curve_inRange, trivial⟩, callOfE_ok ce_curve_Check trivial⟩ h
-- sawmill/curve.Reach: loops [6]; state: params 0..1, then [4, 5, 6, 7, 8, 9]
attribute [simp] Try.f11
noncomputable def an_curve_Reach : Ann := ⟨[0, 1, 4, 5, 6, 7, 8, 9], [12, 18, 26, 41], [], [(6, [0, 1, 6])], [(0, []), (1, [0, 1, 6])], some [4, 5], [(8, 12), (11, 17)], [], [], []⟩
@[simp] theorem an_curve_Reach_draws : an_curve_Reach.draws = [(8, 12), (11, 17)] := rfl
@[simp] theorem an_curve_Reach_exits : an_curve_Reach.exits = [(0, []), (1, [0, 1, 6])] := rfl
@[simp] theorem an_curve_Reach_rets : an_curve_Reach.rets = some [4, 5] := rfl
@[simp] theorem an_curve_Reach_keep : an_curve_Reach.keep = [0, 1, 4, 5, 6, 7, 8, 9] := rfl
@[simp] theorem an_curve_Reach_cond : an_curve_Reach.cond = [12, 18, 26, 41] := rfl
@[simp] theorem an_curve_Reach_rows : an_curve_Reach.rows = [] := rfl
@[simp] theorem an_curve_Reach_loops : an_curve_Reach.loops = [(6, [0, 1, 6])] := rfl
@[simp] theorem an_curve_Reach_ecalls : an_curve_Reach.ecalls = [] := rfl
@[simp] theorem an_curve_Reach_crows : an_curve_Reach.crows = [] := rfl
@[simp] theorem an_curve_Reach_tails : an_curve_Reach.tails = [] := rfl
@[simp] noncomputable def cl_curve_Reach : List (Nat × (List D → Option D)) := [(5, F_curve_Check)]
@[simp] noncomputable def ce_curve_Reach : List (Nat × (List (Nat × O) → List D → Option (D × List (Nat × O)))) := []
noncomputable def c_curve_Reach : CT := ⟨callOf (cl_curve_Reach ), callOfE ce_curve_Reach, gl⟩
@[simp] theorem c_curve_Reach_p (f : FuncId) (ds : List D) : c_curve_Reach.p f ds = callOf (cl_curve_Reach ) f ds := Eq.trans rfl rfl
@[simp] theorem c_curve_Reach_e (f : FuncId) (hs : List (Nat × O)) (ds : List D) : c_curve_Reach.e f hs ds = callOfE ce_curve_Reach f hs ds := Eq.trans rfl rfl
@[simp] theorem c_curve_Reach_g (g : Nat) : c_curve_Reach.g g = gl g := Eq.trans rfl rfl
noncomputable def L_curve_Reach (i n : Nat) (s : St) : Option (E × St) := atN Try.prog c_curve_Reach an_curve_Reach 65 (bodyOf Try.f11) i n s
noncomputable def H_curve_Reach (n i : Nat) (s : St) : Option (E × St) := atH Try.prog c_curve_Reach an_curve_Reach 65 (bodyOf Try.f11) n i s
@[simp] theorem H_curve_Reach_eq (n i : Nat) (s : St) : H_curve_Reach n i s = L_curve_Reach i n (headOf (an_curve_Reach.loops.lookup i) s) := rfl
noncomputable def R_curve_Reach (i : Nat) (s : St) : Option (E × St) := stepL Try.prog c_curve_Reach an_curve_Reach 65 (bodyOf Try.f11) i s
theorem lok_curve_Reach : okLoops (bodyOf Try.f11) = true := by kernel_rfl
theorem L_curve_Reach_succ (i n : Nat) (s : St) : L_curve_Reach i (n + 1) s = andThen (R_curve_Reach i s) (H_curve_Reach n i) := atN_succ lok_curve_Reach (by kernel_rfl) i n s
theorem R_curve_Reach_eq (i : Nat) (s : St) : R_curve_Reach i s = runS Try.prog c_curve_Reach (H_curve_Reach bigL) an_curve_Reach 65 (loopAt (bodyOf Try.f11) i) s := rfl
noncomputable def F_curve_Reach (ds : List D) : Option D := runF Try.prog c_curve_Reach an_curve_Reach 65 (bodyOf Try.f11) [.tmp 4, .tmp 5] ds
theorem F_curve_Reach_eq (ds : List D) : F_curve_Reach ds = runG Try.prog c_curve_Reach (H_curve_Reach bigL) an_curve_Reach 65 (bodyOf Try.f11) [.tmp 4, .tmp 5] ds := runG_eq lok_curve_Reach _ ds
theorem C_curve_Reach (ds : List D) (r : D) (h : F_curve_Reach ds = some r) : Contract Try.prog gl 11 ds r := contract_of mix Try.func11 rfl (by kernel_rfl) (by kernel_rfl) (by decide) (call := c_curve_Reach) ⟨callOf_ok cl_curve_Reach ⟨C_curve_Check, trivial⟩, callOfE_ok ce_curve_Reach trivial⟩ h
-- sawmill/curve.floor: loops []; state: params 0..1, then [4, 5]
attribute [simp] Try.f13
noncomputable def an_curve_floor : Ann := ⟨[0, 1, 4, 5], [12], [], [], [], some [4], [], [], [], []⟩
@[simp] theorem an_curve_floor_draws : an_curve_floor.draws = [] := rfl
@[simp] theorem an_curve_floor_exits : an_curve_floor.exits = [] := rfl
@[simp] theorem an_curve_floor_rets : an_curve_floor.rets = some [4] := rfl
@[simp] theorem an_curve_floor_keep : an_curve_floor.keep = [0, 1, 4, 5] := rfl
@[simp] theorem an_curve_floor_cond : an_curve_floor.cond = [12] := rfl
@[simp] theorem an_curve_floor_rows : an_curve_floor.rows = [] := rfl
@[simp] theorem an_curve_floor_loops : an_curve_floor.loops = [] := rfl
@[simp] theorem an_curve_floor_ecalls : an_curve_floor.ecalls = [] := rfl
@[simp] theorem an_curve_floor_crows : an_curve_floor.crows = [] := rfl
@[simp] theorem an_curve_floor_tails : an_curve_floor.tails = [] := rfl
@[simp] noncomputable def cl_curve_floor : List (Nat × (List D → Option D)) := []
@[simp] noncomputable def ce_curve_floor : List (Nat × (List (Nat × O) → List D → Option (D × List (Nat × O)))) := []
noncomputable def c_curve_floor : CT := ⟨callOf (cl_curve_floor ), callOfE ce_curve_floor, gl⟩
@[simp] theorem c_curve_floor_p (f : FuncId) (ds : List D) : c_curve_floor.p f ds = callOf (cl_curve_floor ) f ds := Eq.trans rfl rfl
@[simp] theorem c_curve_floor_e (f : FuncId) (hs : List (Nat × O)) (ds : List D) : c_curve_floor.e f hs ds = callOfE ce_curve_floor f hs ds := Eq.trans rfl rfl
@[simp] theorem c_curve_floor_g (g : Nat) : c_curve_floor.g g = gl g := Eq.trans rfl rfl
noncomputable def L_curve_floor (i n : Nat) (s : St) : Option (E × St) := atN Try.prog c_curve_floor an_curve_floor 16 (bodyOf Try.f13) i n s
noncomputable def H_curve_floor (n i : Nat) (s : St) : Option (E × St) := atH Try.prog c_curve_floor an_curve_floor 16 (bodyOf Try.f13) n i s
@[simp] theorem H_curve_floor_eq (n i : Nat) (s : St) : H_curve_floor n i s = L_curve_floor i n (headOf (an_curve_floor.loops.lookup i) s) := rfl
noncomputable def R_curve_floor (i : Nat) (s : St) : Option (E × St) := stepL Try.prog c_curve_floor an_curve_floor 16 (bodyOf Try.f13) i s
theorem lok_curve_floor : okLoops (bodyOf Try.f13) = true := by kernel_rfl
noncomputable def F_curve_floor (ds : List D) : Option D := runF Try.prog c_curve_floor an_curve_floor 16 (bodyOf Try.f13) [.tmp 4] ds
theorem F_curve_floor_eq (ds : List D) : F_curve_floor ds = runG Try.prog c_curve_floor (H_curve_floor bigL) an_curve_floor 16 (bodyOf Try.f13) [.tmp 4] ds := runG_eq lok_curve_floor _ ds
theorem C_curve_floor (ds : List D) (r : D) (h : F_curve_floor ds = some r) : Contract Try.prog gl 13 ds r := contract_of mix Try.func13 rfl (by kernel_rfl) (by kernel_rfl) (by decide) (call := c_curve_floor) ⟨callOf_ok cl_curve_floor trivial, callOfE_ok ce_curve_floor trivial⟩ h
-- sawmill/curve.At: loops [6]; state: params 0..1, then [4, 5, 6, 7]
attribute [simp] Try.f7
noncomputable def an_curve_At : Ann := ⟨[0, 1, 4, 5, 6, 7], [10, 16, 24, 33], [], [(6, [0, 1, 5])], [(0, [0]), (1, [0, 1, 5])], some [4], [(9, 12), (10, 18)], [], [], []⟩
@[simp] theorem an_curve_At_draws : an_curve_At.draws = [(9, 12), (10, 18)] := rfl
@[simp] theorem an_curve_At_exits : an_curve_At.exits = [(0, [0]), (1, [0, 1, 5])] := rfl
@[simp] theorem an_curve_At_rets : an_curve_At.rets = some [4] := rfl
@[simp] theorem an_curve_At_keep : an_curve_At.keep = [0, 1, 4, 5, 6, 7] := rfl
@[simp] theorem an_curve_At_cond : an_curve_At.cond = [10, 16, 24, 33] := rfl
@[simp] theorem an_curve_At_rows : an_curve_At.rows = [] := rfl
@[simp] theorem an_curve_At_loops : an_curve_At.loops = [(6, [0, 1, 5])] := rfl
@[simp] theorem an_curve_At_ecalls : an_curve_At.ecalls = [] := rfl
@[simp] theorem an_curve_At_crows : an_curve_At.crows = [] := rfl
@[simp] theorem an_curve_At_tails : an_curve_At.tails = [] := rfl
@[simp] noncomputable def cl_curve_At : List (Nat × (List D → Option D)) := [(5, F_curve_Check), (13, F_curve_floor)]
@[simp] noncomputable def ce_curve_At : List (Nat × (List (Nat × O) → List D → Option (D × List (Nat × O)))) := []
noncomputable def c_curve_At : CT := ⟨callOf (cl_curve_At ), callOfE ce_curve_At, gl⟩
@[simp] theorem c_curve_At_p (f : FuncId) (ds : List D) : c_curve_At.p f ds = callOf (cl_curve_At ) f ds := Eq.trans rfl rfl
@[simp] theorem c_curve_At_e (f : FuncId) (hs : List (Nat × O)) (ds : List D) : c_curve_At.e f hs ds = callOfE ce_curve_At f hs ds := Eq.trans rfl rfl
@[simp] theorem c_curve_At_g (g : Nat) : c_curve_At.g g = gl g := Eq.trans rfl rfl
noncomputable def L_curve_At (i n : Nat) (s : St) : Option (E × St) := atN Try.prog c_curve_At an_curve_At 69 (bodyOf Try.f7) i n s
noncomputable def H_curve_At (n i : Nat) (s : St) : Option (E × St) := atH Try.prog c_curve_At an_curve_At 69 (bodyOf Try.f7) n i s
@[simp] theorem H_curve_At_eq (n i : Nat) (s : St) : H_curve_At n i s = L_curve_At i n (headOf (an_curve_At.loops.lookup i) s) := rfl
noncomputable def R_curve_At (i : Nat) (s : St) : Option (E × St) := stepL Try.prog c_curve_At an_curve_At 69 (bodyOf Try.f7) i s
theorem lok_curve_At : okLoops (bodyOf Try.f7) = true := by kernel_rfl
theorem L_curve_At_succ (i n : Nat) (s : St) : L_curve_At i (n + 1) s = andThen (R_curve_At i s) (H_curve_At n i) := atN_succ lok_curve_At (by kernel_rfl) i n s
theorem R_curve_At_eq (i : Nat) (s : St) : R_curve_At i s = runS Try.prog c_curve_At (H_curve_At bigL) an_curve_At 69 (loopAt (bodyOf Try.f7) i) s := rfl
noncomputable def F_curve_At (ds : List D) : Option D := runF Try.prog c_curve_At an_curve_At 69 (bodyOf Try.f7) [.tmp 4] ds
theorem F_curve_At_eq (ds : List D) : F_curve_At ds = runG Try.prog c_curve_At (H_curve_At bigL) an_curve_At 69 (bodyOf Try.f7) [.tmp 4] ds := runG_eq lok_curve_At _ ds
theorem C_curve_At (ds : List D) (r : D) (h : F_curve_At ds = some r) : Contract Try.prog gl 7 ds r := contract_of mix Try.func7 rfl (by kernel_rfl) (by kernel_rfl) (by decide) (call := c_curve_At) ⟨callOf_ok cl_curve_At ⟨C_curve_Check, C_curve_floor, trivial⟩, callOfE_ok ce_curve_At trivial⟩ h
-- sawmill/curve.Rising: loops [4]; state: params 0..0, then [2, 3]
attribute [simp] Try.f12
noncomputable def an_curve_Rising : Ann := ⟨[0, 2, 3], [6, 10, 24], [], [(4, [0, 3])], [(0, []), (1, [0, 3])], some [2], [(6, 11)], [], [], []⟩
@[simp] theorem an_curve_Rising_draws : an_curve_Rising.draws = [(6, 11)] := rfl
@[simp] theorem an_curve_Rising_exits : an_curve_Rising.exits = [(0, []), (1, [0, 3])] := rfl
@[simp] theorem an_curve_Rising_rets : an_curve_Rising.rets = some [2] := rfl
@[simp] theorem an_curve_Rising_keep : an_curve_Rising.keep = [0, 2, 3] := rfl
@[simp] theorem an_curve_Rising_cond : an_curve_Rising.cond = [6, 10, 24] := rfl
@[simp] theorem an_curve_Rising_rows : an_curve_Rising.rows = [] := rfl
@[simp] theorem an_curve_Rising_loops : an_curve_Rising.loops = [(4, [0, 3])] := rfl
@[simp] theorem an_curve_Rising_ecalls : an_curve_Rising.ecalls = [] := rfl
@[simp] theorem an_curve_Rising_crows : an_curve_Rising.crows = [] := rfl
@[simp] theorem an_curve_Rising_tails : an_curve_Rising.tails = [] := rfl
@[simp] noncomputable def cl_curve_Rising : List (Nat × (List D → Option D)) := [(5, F_curve_Check)]
@[simp] noncomputable def ce_curve_Rising : List (Nat × (List (Nat × O) → List D → Option (D × List (Nat × O)))) := []
noncomputable def c_curve_Rising : CT := ⟨callOf (cl_curve_Rising ), callOfE ce_curve_Rising, gl⟩
@[simp] theorem c_curve_Rising_p (f : FuncId) (ds : List D) : c_curve_Rising.p f ds = callOf (cl_curve_Rising ) f ds := Eq.trans rfl rfl
@[simp] theorem c_curve_Rising_e (f : FuncId) (hs : List (Nat × O)) (ds : List D) : c_curve_Rising.e f hs ds = callOfE ce_curve_Rising f hs ds := Eq.trans rfl rfl
@[simp] theorem c_curve_Rising_g (g : Nat) : c_curve_Rising.g g = gl g := Eq.trans rfl rfl
noncomputable def L_curve_Rising (i n : Nat) (s : St) : Option (E × St) := atN Try.prog c_curve_Rising an_curve_Rising 25 (bodyOf Try.f12) i n s
noncomputable def H_curve_Rising (n i : Nat) (s : St) : Option (E × St) := atH Try.prog c_curve_Rising an_curve_Rising 25 (bodyOf Try.f12) n i s
@[simp] theorem H_curve_Rising_eq (n i : Nat) (s : St) : H_curve_Rising n i s = L_curve_Rising i n (headOf (an_curve_Rising.loops.lookup i) s) := rfl
noncomputable def R_curve_Rising (i : Nat) (s : St) : Option (E × St) := stepL Try.prog c_curve_Rising an_curve_Rising 25 (bodyOf Try.f12) i s
theorem lok_curve_Rising : okLoops (bodyOf Try.f12) = true := by kernel_rfl
theorem L_curve_Rising_succ (i n : Nat) (s : St) : L_curve_Rising i (n + 1) s = andThen (R_curve_Rising i s) (H_curve_Rising n i) := atN_succ lok_curve_Rising (by kernel_rfl) i n s
theorem R_curve_Rising_eq (i : Nat) (s : St) : R_curve_Rising i s = runS Try.prog c_curve_Rising (H_curve_Rising bigL) an_curve_Rising 25 (loopAt (bodyOf Try.f12) i) s := rfl
noncomputable def F_curve_Rising (ds : List D) : Option D := runF Try.prog c_curve_Rising an_curve_Rising 25 (bodyOf Try.f12) [.tmp 2] ds
theorem F_curve_Rising_eq (ds : List D) : F_curve_Rising ds = runG Try.prog c_curve_Rising (H_curve_Rising bigL) an_curve_Rising 25 (bodyOf Try.f12) [.tmp 2] ds := runG_eq lok_curve_Rising _ ds
theorem C_curve_Rising (ds : List D) (r : D) (h : F_curve_Rising ds = some r) : Contract Try.prog gl 12 ds r := contract_of mix Try.func12 rfl (by kernel_rfl) (by kernel_rfl) (by decide) (call := c_curve_Rising) ⟨callOf_ok cl_curve_Rising ⟨C_curve_Check, trivial⟩, callOfE_ok ce_curve_Rising trivial⟩ h
-- sawmill/curve.checkAxis: loops [2]; state: params 0..0, then [2, 3, 4, 5, 6, 7]
attribute [simp] Try.f14
noncomputable def an_curve_checkAxis : Ann := ⟨[0, 2, 3, 4, 5, 6, 7], [8, 14, 25], [], [(2, [0, 5, 6, 7])], [(0, []), (1, [0, 5, 6, 7])], some [2], [], [], [], []⟩
@[simp] theorem an_curve_checkAxis_draws : an_curve_checkAxis.draws = [] := rfl
@[simp] theorem an_curve_checkAxis_exits : an_curve_checkAxis.exits = [(0, []), (1, [0, 5, 6, 7])] := rfl
@[simp] theorem an_curve_checkAxis_rets : an_curve_checkAxis.rets = some [2] := rfl
@[simp] theorem an_curve_checkAxis_keep : an_curve_checkAxis.keep = [0, 2, 3, 4, 5, 6, 7] := rfl
@[simp] theorem an_curve_checkAxis_cond : an_curve_checkAxis.cond = [8, 14, 25] := rfl
@[simp] theorem an_curve_checkAxis_rows : an_curve_checkAxis.rows = [] := rfl
@[simp] theorem an_curve_checkAxis_loops : an_curve_checkAxis.loops = [(2, [0, 5, 6, 7])] := rfl
@[simp] theorem an_curve_checkAxis_ecalls : an_curve_checkAxis.ecalls = [] := rfl
@[simp] theorem an_curve_checkAxis_crows : an_curve_checkAxis.crows = [] := rfl
@[simp] theorem an_curve_checkAxis_tails : an_curve_checkAxis.tails = [] := rfl
@[simp] noncomputable def cl_curve_checkAxis : List (Nat × (List D → Option D)) := [(10, F_curve_inRange)]
@[simp] noncomputable def ce_curve_checkAxis : List (Nat × (List (Nat × O) → List D → Option (D × List (Nat × O)))) := []
noncomputable def c_curve_checkAxis : CT := ⟨callOf (cl_curve_checkAxis ), callOfE ce_curve_checkAxis, gl⟩
@[simp] theorem c_curve_checkAxis_p (f : FuncId) (ds : List D) : c_curve_checkAxis.p f ds = callOf (cl_curve_checkAxis ) f ds := Eq.trans rfl rfl
@[simp] theorem c_curve_checkAxis_e (f : FuncId) (hs : List (Nat × O)) (ds : List D) : c_curve_checkAxis.e f hs ds = callOfE ce_curve_checkAxis f hs ds := Eq.trans rfl rfl
@[simp] theorem c_curve_checkAxis_g (g : Nat) : c_curve_checkAxis.g g = gl g := Eq.trans rfl rfl
noncomputable def L_curve_checkAxis (i n : Nat) (s : St) : Option (E × St) := atN Try.prog c_curve_checkAxis an_curve_checkAxis 27 (bodyOf Try.f14) i n s
noncomputable def H_curve_checkAxis (n i : Nat) (s : St) : Option (E × St) := atH Try.prog c_curve_checkAxis an_curve_checkAxis 27 (bodyOf Try.f14) n i s
@[simp] theorem H_curve_checkAxis_eq (n i : Nat) (s : St) : H_curve_checkAxis n i s = L_curve_checkAxis i n (headOf (an_curve_checkAxis.loops.lookup i) s) := rfl
noncomputable def R_curve_checkAxis (i : Nat) (s : St) : Option (E × St) := stepL Try.prog c_curve_checkAxis an_curve_checkAxis 27 (bodyOf Try.f14) i s
theorem lok_curve_checkAxis : okLoops (bodyOf Try.f14) = true := by kernel_rfl
theorem L_curve_checkAxis_succ (i n : Nat) (s : St) : L_curve_checkAxis i (n + 1) s = andThen (R_curve_checkAxis i s) (H_curve_checkAxis n i) := atN_succ lok_curve_checkAxis (by kernel_rfl) i n s
theorem R_curve_checkAxis_eq (i : Nat) (s : St) : R_curve_checkAxis i s = runS Try.prog c_curve_checkAxis (H_curve_checkAxis bigL) an_curve_checkAxis 27 (loopAt (bodyOf Try.f14) i) s := rfl
noncomputable def F_curve_checkAxis (ds : List D) : Option D := runF Try.prog c_curve_checkAxis an_curve_checkAxis 27 (bodyOf Try.f14) [.tmp 2] ds
theorem F_curve_checkAxis_eq (ds : List D) : F_curve_checkAxis ds = runG Try.prog c_curve_checkAxis (H_curve_checkAxis bigL) an_curve_checkAxis 27 (bodyOf Try.f14) [.tmp 2] ds := runG_eq lok_curve_checkAxis _ ds
theorem C_curve_checkAxis (ds : List D) (r : D) (h : F_curve_checkAxis ds = some r) : Contract Try.prog gl 14 ds r := contract_of mix Try.func14 rfl (by kernel_rfl) (by kernel_rfl) (by decide) (call := c_curve_checkAxis) ⟨callOf_ok cl_curve_checkAxis ⟨C_curve_inRange, trivial⟩, callOfE_ok ce_curve_checkAxis trivial⟩ h
-- sawmill/curve.CheckGrid: loops [14, 19]; state: params 0..0, then [1, 2, 3, 4, 6, 8, 49, 50, 51, 61, 62, 63]
attribute [simp] Try.f8
noncomputable def an_curve_CheckGrid : Ann := ⟨[1, 2, 3, 4, 6, 8, 49, 50, 51, 61, 62, 63], [18, 28, 33, 39, 47, 52, 60, 64, 69], [], [(14, [1, 49, 50, 51]), (19, [1, 49, 50, 51, 61, 62, 63])], [(0, []), (1, [1, 49, 50, 51]), (2, [1, 49, 50, 51]), (3, [1, 49, 50, 51, 61, 62, 63])], some [2], [], [], [], []⟩
@[simp] theorem an_curve_CheckGrid_draws : an_curve_CheckGrid.draws = [] := rfl
@[simp] theorem an_curve_CheckGrid_exits : an_curve_CheckGrid.exits = [(0, []), (1, [1, 49, 50, 51]), (2, [1, 49, 50, 51]), (3, [1, 49, 50, 51, 61, 62, 63])] := rfl
@[simp] theorem an_curve_CheckGrid_rets : an_curve_CheckGrid.rets = some [2] := rfl
@[simp] theorem an_curve_CheckGrid_keep : an_curve_CheckGrid.keep = [1, 2, 3, 4, 6, 8, 49, 50, 51, 61, 62, 63] := rfl
@[simp] theorem an_curve_CheckGrid_cond : an_curve_CheckGrid.cond = [18, 28, 33, 39, 47, 52, 60, 64, 69] := rfl
@[simp] theorem an_curve_CheckGrid_rows : an_curve_CheckGrid.rows = [] := rfl
@[simp] theorem an_curve_CheckGrid_loops : an_curve_CheckGrid.loops = [(14, [1, 49, 50, 51]), (19, [1, 49, 50, 51, 61, 62, 63])] := rfl
@[simp] theorem an_curve_CheckGrid_ecalls : an_curve_CheckGrid.ecalls = [] := rfl
@[simp] theorem an_curve_CheckGrid_crows : an_curve_CheckGrid.crows = [] := rfl
@[simp] theorem an_curve_CheckGrid_tails : an_curve_CheckGrid.tails = [] := rfl
@[simp] noncomputable def cl_curve_CheckGrid : List (Nat × (List D → Option D)) := [(10, F_curve_inRange), (14, F_curve_checkAxis)]
@[simp] noncomputable def ce_curve_CheckGrid : List (Nat × (List (Nat × O) → List D → Option (D × List (Nat × O)))) := []
noncomputable def c_curve_CheckGrid : CT := ⟨callOf (cl_curve_CheckGrid ), callOfE ce_curve_CheckGrid, gl⟩
@[simp] theorem c_curve_CheckGrid_p (f : FuncId) (ds : List D) : c_curve_CheckGrid.p f ds = callOf (cl_curve_CheckGrid ) f ds := Eq.trans rfl rfl
@[simp] theorem c_curve_CheckGrid_e (f : FuncId) (hs : List (Nat × O)) (ds : List D) : c_curve_CheckGrid.e f hs ds = callOfE ce_curve_CheckGrid f hs ds := Eq.trans rfl rfl
@[simp] theorem c_curve_CheckGrid_g (g : Nat) : c_curve_CheckGrid.g g = gl g := Eq.trans rfl rfl
noncomputable def L_curve_CheckGrid (i n : Nat) (s : St) : Option (E × St) := atN Try.prog c_curve_CheckGrid an_curve_CheckGrid 72 (bodyOf Try.f8) i n s
noncomputable def H_curve_CheckGrid (n i : Nat) (s : St) : Option (E × St) := atH Try.prog c_curve_CheckGrid an_curve_CheckGrid 72 (bodyOf Try.f8) n i s
@[simp] theorem H_curve_CheckGrid_eq (n i : Nat) (s : St) : H_curve_CheckGrid n i s = L_curve_CheckGrid i n (headOf (an_curve_CheckGrid.loops.lookup i) s) := rfl
noncomputable def R_curve_CheckGrid (i : Nat) (s : St) : Option (E × St) := stepL Try.prog c_curve_CheckGrid an_curve_CheckGrid 72 (bodyOf Try.f8) i s
theorem lok_curve_CheckGrid : okLoops (bodyOf Try.f8) = true := by kernel_rfl
theorem L_curve_CheckGrid_succ (i n : Nat) (s : St) : L_curve_CheckGrid i (n + 1) s = andThen (R_curve_CheckGrid i s) (H_curve_CheckGrid n i) := atN_succ lok_curve_CheckGrid (by kernel_rfl) i n s
theorem R_curve_CheckGrid_eq (i : Nat) (s : St) : R_curve_CheckGrid i s = runS Try.prog c_curve_CheckGrid (H_curve_CheckGrid bigL) an_curve_CheckGrid 72 (loopAt (bodyOf Try.f8) i) s := rfl
noncomputable def F_curve_CheckGrid (ds : List D) : Option D := runF Try.prog c_curve_CheckGrid an_curve_CheckGrid 72 (bodyOf Try.f8) [.tmp 2] ds
theorem F_curve_CheckGrid_eq (ds : List D) : F_curve_CheckGrid ds = runG Try.prog c_curve_CheckGrid (H_curve_CheckGrid bigL) an_curve_CheckGrid 72 (bodyOf Try.f8) [.tmp 2] ds := runG_eq lok_curve_CheckGrid _ ds
theorem C_curve_CheckGrid (ds : List D) (r : D) (h : F_curve_CheckGrid ds = some r) : Contract Try.prog gl 8 ds r := contract_of mix Try.func8 rfl (by kernel_rfl) (by kernel_rfl) (by decide) (call := c_curve_CheckGrid) ⟨callOf_ok cl_curve_CheckGrid ⟨C_curve_inRange, C_curve_checkAxis, trivial⟩, callOfE_ok ce_curve_CheckGrid trivial⟩ h
-- sawmill/curve.points: loops [3]; state: params 0..1, then [4, 5, 6, 11, 12]
attribute [simp] Try.f15
noncomputable def an_curve_points : Ann := ⟨[0, 4, 5, 6, 11, 12], [13], [5], [(3, [0, 1, 5, 11, 12])], [(0, [5]), (1, [0, 1, 5, 11, 12])], some [4], [(5, 11)], [], [], []⟩
@[simp] theorem an_curve_points_draws : an_curve_points.draws = [(5, 11)] := rfl
@[simp] theorem an_curve_points_exits : an_curve_points.exits = [(0, [5]), (1, [0, 1, 5, 11, 12])] := rfl
@[simp] theorem an_curve_points_rets : an_curve_points.rets = some [4] := rfl
@[simp] theorem an_curve_points_keep : an_curve_points.keep = [0, 4, 5, 6, 11, 12] := rfl
@[simp] theorem an_curve_points_cond : an_curve_points.cond = [13] := rfl
@[simp] theorem an_curve_points_rows : an_curve_points.rows = [5] := rfl
@[simp] theorem an_curve_points_loops : an_curve_points.loops = [(3, [0, 1, 5, 11, 12])] := rfl
@[simp] theorem an_curve_points_ecalls : an_curve_points.ecalls = [] := rfl
@[simp] theorem an_curve_points_crows : an_curve_points.crows = [] := rfl
@[simp] theorem an_curve_points_tails : an_curve_points.tails = [] := rfl
@[simp] noncomputable def cl_curve_points : List (Nat × (List D → Option D)) := []
@[simp] noncomputable def ce_curve_points : List (Nat × (List (Nat × O) → List D → Option (D × List (Nat × O)))) := []
noncomputable def c_curve_points : CT := ⟨callOf (cl_curve_points ), callOfE ce_curve_points, gl⟩
@[simp] theorem c_curve_points_p (f : FuncId) (ds : List D) : c_curve_points.p f ds = callOf (cl_curve_points ) f ds := Eq.trans rfl rfl
@[simp] theorem c_curve_points_e (f : FuncId) (hs : List (Nat × O)) (ds : List D) : c_curve_points.e f hs ds = callOfE ce_curve_points f hs ds := Eq.trans rfl rfl
@[simp] theorem c_curve_points_g (g : Nat) : c_curve_points.g g = gl g := Eq.trans rfl rfl
noncomputable def L_curve_points (i n : Nat) (s : St) : Option (E × St) := atN Try.prog c_curve_points an_curve_points 29 (bodyOf Try.f15) i n s
noncomputable def H_curve_points (n i : Nat) (s : St) : Option (E × St) := atH Try.prog c_curve_points an_curve_points 29 (bodyOf Try.f15) n i s
@[simp] theorem H_curve_points_eq (n i : Nat) (s : St) : H_curve_points n i s = L_curve_points i n (headOf (an_curve_points.loops.lookup i) s) := rfl
noncomputable def R_curve_points (i : Nat) (s : St) : Option (E × St) := stepL Try.prog c_curve_points an_curve_points 29 (bodyOf Try.f15) i s
theorem lok_curve_points : okLoops (bodyOf Try.f15) = true := by kernel_rfl
theorem L_curve_points_succ (i n : Nat) (s : St) : L_curve_points i (n + 1) s = andThen (R_curve_points i s) (H_curve_points n i) := atN_succ lok_curve_points (by kernel_rfl) i n s
theorem R_curve_points_eq (i : Nat) (s : St) : R_curve_points i s = runS Try.prog c_curve_points (H_curve_points bigL) an_curve_points 29 (loopAt (bodyOf Try.f15) i) s := rfl
noncomputable def F_curve_points (ds : List D) : Option D := runF Try.prog c_curve_points an_curve_points 29 (bodyOf Try.f15) [.tmp 4] ds
theorem F_curve_points_eq (ds : List D) : F_curve_points ds = runG Try.prog c_curve_points (H_curve_points bigL) an_curve_points 29 (bodyOf Try.f15) [.tmp 4] ds := runG_eq lok_curve_points _ ds
theorem C_curve_points (ds : List D) (r : D) (h : F_curve_points ds = some r) : Contract Try.prog gl 15 ds r := contract_of mix Try.func15 rfl (by kernel_rfl) (by kernel_rfl) (by decide) (call := c_curve_points) ⟨callOf_ok cl_curve_points trivial, callOfE_ok ce_curve_points trivial⟩ h
-- sawmill/curve.Value: loops [5]; state: params 0..2, then [3, 6, 7, 8, 9, 14, 15, 16]
attribute [simp] Try.f9
noncomputable def an_curve_Value : Ann := ⟨[3, 6, 7, 8, 9, 14, 15, 16], [12, 17], [], [(5, [1, 2, 3, 7, 14, 15, 16])], [(0, [1, 3, 7]), (1, [1, 2, 3, 7, 14, 15, 16])], some [6], [(9, 5)], [], [], []⟩
@[simp] theorem an_curve_Value_draws : an_curve_Value.draws = [(9, 5)] := rfl
@[simp] theorem an_curve_Value_exits : an_curve_Value.exits = [(0, [1, 3, 7]), (1, [1, 2, 3, 7, 14, 15, 16])] := rfl
@[simp] theorem an_curve_Value_rets : an_curve_Value.rets = some [6] := rfl
@[simp] theorem an_curve_Value_keep : an_curve_Value.keep = [3, 6, 7, 8, 9, 14, 15, 16] := rfl
@[simp] theorem an_curve_Value_cond : an_curve_Value.cond = [12, 17] := rfl
@[simp] theorem an_curve_Value_rows : an_curve_Value.rows = [] := rfl
@[simp] theorem an_curve_Value_loops : an_curve_Value.loops = [(5, [1, 2, 3, 7, 14, 15, 16])] := rfl
@[simp] theorem an_curve_Value_ecalls : an_curve_Value.ecalls = [] := rfl
@[simp] theorem an_curve_Value_crows : an_curve_Value.crows = [] := rfl
@[simp] theorem an_curve_Value_tails : an_curve_Value.tails = [] := rfl
@[simp] noncomputable def cl_curve_Value : List (Nat × (List D → Option D)) := [(7, F_curve_At), (8, F_curve_CheckGrid), (15, F_curve_points)]
@[simp] noncomputable def ce_curve_Value : List (Nat × (List (Nat × O) → List D → Option (D × List (Nat × O)))) := []
noncomputable def c_curve_Value : CT := ⟨callOf (cl_curve_Value ), callOfE ce_curve_Value, gl⟩
@[simp] theorem c_curve_Value_p (f : FuncId) (ds : List D) : c_curve_Value.p f ds = callOf (cl_curve_Value ) f ds := Eq.trans rfl rfl
@[simp] theorem c_curve_Value_e (f : FuncId) (hs : List (Nat × O)) (ds : List D) : c_curve_Value.e f hs ds = callOfE ce_curve_Value f hs ds := Eq.trans rfl rfl
@[simp] theorem c_curve_Value_g (g : Nat) : c_curve_Value.g g = gl g := Eq.trans rfl rfl
noncomputable def L_curve_Value (i n : Nat) (s : St) : Option (E × St) := atN Try.prog c_curve_Value an_curve_Value 36 (bodyOf Try.f9) i n s
noncomputable def H_curve_Value (n i : Nat) (s : St) : Option (E × St) := atH Try.prog c_curve_Value an_curve_Value 36 (bodyOf Try.f9) n i s
@[simp] theorem H_curve_Value_eq (n i : Nat) (s : St) : H_curve_Value n i s = L_curve_Value i n (headOf (an_curve_Value.loops.lookup i) s) := rfl
noncomputable def R_curve_Value (i : Nat) (s : St) : Option (E × St) := stepL Try.prog c_curve_Value an_curve_Value 36 (bodyOf Try.f9) i s
theorem lok_curve_Value : okLoops (bodyOf Try.f9) = true := by kernel_rfl
theorem L_curve_Value_succ (i n : Nat) (s : St) : L_curve_Value i (n + 1) s = andThen (R_curve_Value i s) (H_curve_Value n i) := atN_succ lok_curve_Value (by kernel_rfl) i n s
theorem R_curve_Value_eq (i : Nat) (s : St) : R_curve_Value i s = runS Try.prog c_curve_Value (H_curve_Value bigL) an_curve_Value 36 (loopAt (bodyOf Try.f9) i) s := rfl
noncomputable def F_curve_Value (ds : List D) : Option D := runF Try.prog c_curve_Value an_curve_Value 36 (bodyOf Try.f9) [.tmp 6] ds
theorem F_curve_Value_eq (ds : List D) : F_curve_Value ds = runG Try.prog c_curve_Value (H_curve_Value bigL) an_curve_Value 36 (bodyOf Try.f9) [.tmp 6] ds := runG_eq lok_curve_Value _ ds
theorem C_curve_Value (ds : List D) (r : D) (h : F_curve_Value ds = some r) : Contract Try.prog gl 9 ds r := contract_of mix Try.func9 rfl (by kernel_rfl) (by kernel_rfl) (by decide) (call := c_curve_Value) ⟨callOf_ok cl_curve_Value ⟨C_curve_At, C_curve_CheckGrid, C_curve_points, trivial⟩, callOfE_ok ce_curve_Value trivial⟩ h
-- sawmill/sawmilllaw08.awake: loops []; state: params 0..-1, then [0, 1, 2, 3, 5, 6]
attribute [simp] Try.f6
noncomputable def an_law08_awake : Ann := ⟨[0, 1, 2, 3, 5, 6], [], [], [], [], some [0], [], [], [], []⟩
@[simp] theorem an_law08_awake_draws : an_law08_awake.draws = [] := rfl
@[simp] theorem an_law08_awake_exits : an_law08_awake.exits = [] := rfl
@[simp] theorem an_law08_awake_rets : an_law08_awake.rets = some [0] := rfl
@[simp] theorem an_law08_awake_keep : an_law08_awake.keep = [0, 1, 2, 3, 5, 6] := rfl
@[simp] theorem an_law08_awake_cond : an_law08_awake.cond = [] := rfl
@[simp] theorem an_law08_awake_rows : an_law08_awake.rows = [] := rfl
@[simp] theorem an_law08_awake_loops : an_law08_awake.loops = [] := rfl
@[simp] theorem an_law08_awake_ecalls : an_law08_awake.ecalls = [] := rfl
@[simp] theorem an_law08_awake_crows : an_law08_awake.crows = [] := rfl
@[simp] theorem an_law08_awake_tails : an_law08_awake.tails = [] := rfl
@[simp] noncomputable def cl_law08_awake : List (Nat × (List D → Option D)) := [(5, F_curve_Check), (7, F_curve_At), (8, F_curve_CheckGrid), (9, F_curve_Value), (11, F_curve_Reach), (12, F_curve_Rising)]
@[simp] noncomputable def ce_law08_awake : List (Nat × (List (Nat × O) → List D → Option (D × List (Nat × O)))) := []
noncomputable def c_law08_awake : CT := ⟨callOf (cl_law08_awake ), callOfE ce_law08_awake, gl⟩
@[simp] theorem c_law08_awake_p (f : FuncId) (ds : List D) : c_law08_awake.p f ds = callOf (cl_law08_awake ) f ds := Eq.trans rfl rfl
@[simp] theorem c_law08_awake_e (f : FuncId) (hs : List (Nat × O)) (ds : List D) : c_law08_awake.e f hs ds = callOfE ce_law08_awake f hs ds := Eq.trans rfl rfl
@[simp] theorem c_law08_awake_g (g : Nat) : c_law08_awake.g g = gl g := Eq.trans rfl rfl
noncomputable def L_law08_awake (i n : Nat) (s : St) : Option (E × St) := atN Try.prog c_law08_awake an_law08_awake 75 (bodyOf Try.f6) i n s
noncomputable def H_law08_awake (n i : Nat) (s : St) : Option (E × St) := atH Try.prog c_law08_awake an_law08_awake 75 (bodyOf Try.f6) n i s
@[simp] theorem H_law08_awake_eq (n i : Nat) (s : St) : H_law08_awake n i s = L_law08_awake i n (headOf (an_law08_awake.loops.lookup i) s) := rfl
noncomputable def R_law08_awake (i : Nat) (s : St) : Option (E × St) := stepL Try.prog c_law08_awake an_law08_awake 75 (bodyOf Try.f6) i s
theorem lok_law08_awake : okLoops (bodyOf Try.f6) = true := by kernel_rfl
noncomputable def F_law08_awake (ds : List D) : Option D := runF Try.prog c_law08_awake an_law08_awake 75 (bodyOf Try.f6) [.tmp 0] ds
theorem F_law08_awake_eq (ds : List D) : F_law08_awake ds = runG Try.prog c_law08_awake (H_law08_awake bigL) an_law08_awake 75 (bodyOf Try.f6) [.tmp 0] ds := runG_eq lok_law08_awake _ ds
theorem C_law08_awake (ds : List D) (r : D) (h : F_law08_awake ds = some r) : Contract Try.prog gl 6 ds r := contract_of mix Try.func6 rfl (by kernel_rfl) (by kernel_rfl) (by decide) (call := c_law08_awake) ⟨callOf_ok cl_law08_awake ⟨C_curve_Check, C_curve_At, C_curve_CheckGrid, C_curve_Value, C_curve_Reach, C_curve_Rising, trivial⟩, callOfE_ok ce_law08_awake trivial⟩ h
-- sawmill/sawmilllaw08.CurveRow: loops [6]; state: params 0..2, then [6, 7, 8, 9, 10]
attribute [simp] Try.f3
noncomputable def an_law08_CurveRow : Ann := ⟨[0, 1, 2, 6, 7, 8, 9, 10], [26, 38], [42, 52, 56, 66, 76], [(6, [0, 1, 2, 7, 8, 9])], [(0, [0, 1, 2, 7, 8]), (1, [0, 1, 2, 7, 8, 9])], some [6], [(8, 8), (9, 0), (10, 8), (11, 0)], [], [(27, 0, 3, 1), (30, 0, 3, 1), (30, 1, 3, 1), (30, 2, 27, 1)], [(9, (.alt 6 (.alt 7 (.dag [[[(0, 0)], [(0, 2)], [(0, 8)]], [[(0, 1)], [(0, 2), (1, 0)], [(0, 8), (2, 0)], [(1, 3)], [(1, 8), (2, 2)], [(2, 9)]], [[(0, 2), (1, 1)], [(0, 8), (2, 1)], [(1, 3), (3, 0)], [(1, 8), (2, 2), (4, 0)], [(2, 9), (5, 0)], [(3, 4)], [(3, 8), (4, 3)], [(4, 9), (5, 2)], [(5, 10)]], [[(0, 3), (2, 1)], [(0, 8), (1, 2), (3, 1)], [(1, 9), (4, 1)], [(2, 4), (5, 0)], [(2, 8), (3, 3), (6, 0)], [(3, 9), (4, 2), (7, 0)], [(4, 10), (8, 0)], [(5, 5)], [(5, 8), (6, 4)], [(6, 9), (7, 3)], [(7, 10), (8, 2)], [(8, 11)]], [[(0, 4), (3, 1)], [(0, 8), (1, 3), (4, 1)], [(1, 9), (2, 2), (5, 1)], [(2, 10), (6, 1)], [(3, 5), (7, 0)], [(3, 8), (4, 4), (8, 0)], [(4, 9), (5, 3), (9, 0)], [(5, 10), (6, 2), (10, 0)], [(6, 11), (11, 0)], [(7, 8), (8, 5)], [(8, 9), (9, 4)], [(9, 10), (10, 3)], [(10, 11), (11, 2)]], [[(0, 5), (4, 1)], [(0, 8), (1, 4), (5, 1)], [(1, 9), (2, 3), (6, 1)], [(2, 10), (3, 2), (7, 1)], [(3, 11), (8, 1)], [(4, 8), (5, 5), (9, 0)], [(5, 9), (6, 4), (10, 0)], [(6, 10), (7, 3), (11, 0)], [(7, 11), (8, 2), (12, 0)], [(9, 9), (10, 5)], [(10, 10), (11, 4)], [(11, 11), (12, 3)]], [[(0, 8), (1, 5), (5, 1)], [(1, 9), (2, 4), (6, 1)], [(2, 10), (3, 3), (7, 1)], [(3, 11), (4, 2), (8, 1)], [(5, 9), (6, 5), (9, 0)], [(6, 10), (7, 4), (10, 0)], [(7, 11), (8, 3), (11, 0)], [(9, 10), (10, 5)], [(10, 11), (11, 4)]], [[(0, 9), (1, 5), (4, 1)], [(1, 10), (2, 4), (5, 1)], [(2, 11), (3, 3), (6, 1)], [(4, 10), (5, 5), (7, 0)], [(5, 11), (6, 4), (8, 0)], [(7, 11), (8, 5)]], [[(0, 10), (1, 5), (3, 1)], [(1, 11), (2, 4), (4, 1)], [(3, 11), (4, 5), (5, 0)], [(5, 12)]], [[(0, 11), (1, 5), (2, 1)], [(2, 12), (3, 0)]], [[(0, 12), (1, 1)]], [[(0, 13)]], [[(0, 14)]]]) .leaf) .leaf)), (11, (.alt 2 (.alt 3 (.dag [[[(0, 0)], [(0, 4)]], [[(0, 1)], [(0, 4), (1, 0)], [(1, 5)]], [[(0, 4), (1, 1)], [(1, 5), (2, 0)], [(2, 6)]], [[(0, 5), (1, 1)], [(1, 6), (2, 0)], [(2, 7)]], [[(0, 6), (1, 1)], [(1, 7), (2, 0)], [(2, 8)]], [[(0, 7), (1, 1)], [(1, 8), (2, 0)]], [[(0, 8), (1, 1)]], [[(0, 9)]], [[(0, 10)]], [[(0, 11)]]]) .leaf) .leaf))]⟩
@[simp] theorem an_law08_CurveRow_draws : an_law08_CurveRow.draws = [(8, 8), (9, 0), (10, 8), (11, 0)] := rfl
@[simp] theorem an_law08_CurveRow_exits : an_law08_CurveRow.exits = [(0, [0, 1, 2, 7, 8]), (1, [0, 1, 2, 7, 8, 9])] := rfl
@[simp] theorem an_law08_CurveRow_rets : an_law08_CurveRow.rets = some [6] := rfl
@[simp] theorem an_law08_CurveRow_keep : an_law08_CurveRow.keep = [0, 1, 2, 6, 7, 8, 9, 10] := rfl
@[simp] theorem an_law08_CurveRow_cond : an_law08_CurveRow.cond = [26, 38] := rfl
@[simp] theorem an_law08_CurveRow_rows : an_law08_CurveRow.rows = [42, 52, 56, 66, 76] := rfl
@[simp] theorem an_law08_CurveRow_loops : an_law08_CurveRow.loops = [(6, [0, 1, 2, 7, 8, 9])] := rfl
@[simp] theorem an_law08_CurveRow_ecalls : an_law08_CurveRow.ecalls = [] := rfl
@[simp] theorem an_law08_CurveRow_crows : an_law08_CurveRow.crows = [(27, 0, 3, 1), (30, 0, 3, 1), (30, 1, 3, 1), (30, 2, 27, 1)] := rfl
@[simp] theorem an_law08_CurveRow_tails : an_law08_CurveRow.tails = [(9, (.alt 6 (.alt 7 (.dag [[[(0, 0)], [(0, 2)], [(0, 8)]], [[(0, 1)], [(0, 2), (1, 0)], [(0, 8), (2, 0)], [(1, 3)], [(1, 8), (2, 2)], [(2, 9)]], [[(0, 2), (1, 1)], [(0, 8), (2, 1)], [(1, 3), (3, 0)], [(1, 8), (2, 2), (4, 0)], [(2, 9), (5, 0)], [(3, 4)], [(3, 8), (4, 3)], [(4, 9), (5, 2)], [(5, 10)]], [[(0, 3), (2, 1)], [(0, 8), (1, 2), (3, 1)], [(1, 9), (4, 1)], [(2, 4), (5, 0)], [(2, 8), (3, 3), (6, 0)], [(3, 9), (4, 2), (7, 0)], [(4, 10), (8, 0)], [(5, 5)], [(5, 8), (6, 4)], [(6, 9), (7, 3)], [(7, 10), (8, 2)], [(8, 11)]], [[(0, 4), (3, 1)], [(0, 8), (1, 3), (4, 1)], [(1, 9), (2, 2), (5, 1)], [(2, 10), (6, 1)], [(3, 5), (7, 0)], [(3, 8), (4, 4), (8, 0)], [(4, 9), (5, 3), (9, 0)], [(5, 10), (6, 2), (10, 0)], [(6, 11), (11, 0)], [(7, 8), (8, 5)], [(8, 9), (9, 4)], [(9, 10), (10, 3)], [(10, 11), (11, 2)]], [[(0, 5), (4, 1)], [(0, 8), (1, 4), (5, 1)], [(1, 9), (2, 3), (6, 1)], [(2, 10), (3, 2), (7, 1)], [(3, 11), (8, 1)], [(4, 8), (5, 5), (9, 0)], [(5, 9), (6, 4), (10, 0)], [(6, 10), (7, 3), (11, 0)], [(7, 11), (8, 2), (12, 0)], [(9, 9), (10, 5)], [(10, 10), (11, 4)], [(11, 11), (12, 3)]], [[(0, 8), (1, 5), (5, 1)], [(1, 9), (2, 4), (6, 1)], [(2, 10), (3, 3), (7, 1)], [(3, 11), (4, 2), (8, 1)], [(5, 9), (6, 5), (9, 0)], [(6, 10), (7, 4), (10, 0)], [(7, 11), (8, 3), (11, 0)], [(9, 10), (10, 5)], [(10, 11), (11, 4)]], [[(0, 9), (1, 5), (4, 1)], [(1, 10), (2, 4), (5, 1)], [(2, 11), (3, 3), (6, 1)], [(4, 10), (5, 5), (7, 0)], [(5, 11), (6, 4), (8, 0)], [(7, 11), (8, 5)]], [[(0, 10), (1, 5), (3, 1)], [(1, 11), (2, 4), (4, 1)], [(3, 11), (4, 5), (5, 0)], [(5, 12)]], [[(0, 11), (1, 5), (2, 1)], [(2, 12), (3, 0)]], [[(0, 12), (1, 1)]], [[(0, 13)]], [[(0, 14)]]]) .leaf) .leaf)), (11, (.alt 2 (.alt 3 (.dag [[[(0, 0)], [(0, 4)]], [[(0, 1)], [(0, 4), (1, 0)], [(1, 5)]], [[(0, 4), (1, 1)], [(1, 5), (2, 0)], [(2, 6)]], [[(0, 5), (1, 1)], [(1, 6), (2, 0)], [(2, 7)]], [[(0, 6), (1, 1)], [(1, 7), (2, 0)], [(2, 8)]], [[(0, 7), (1, 1)], [(1, 8), (2, 0)]], [[(0, 8), (1, 1)]], [[(0, 9)]], [[(0, 10)]], [[(0, 11)]]]) .leaf) .leaf))] := rfl
@[simp] noncomputable def cl_law08_CurveRow : List (Nat × (List D → Option D)) := [(4, F_law08_small), (5, F_curve_Check), (6, F_law08_awake), (7, F_curve_At), (8, F_curve_CheckGrid), (9, F_curve_Value)]
@[simp] noncomputable def ce_law08_CurveRow : List (Nat × (List (Nat × O) → List D → Option (D × List (Nat × O)))) := []
noncomputable def c_law08_CurveRow : CT := ⟨callOf (cl_law08_CurveRow ), callOfE ce_law08_CurveRow, gl⟩
@[simp] theorem c_law08_CurveRow_p (f : FuncId) (ds : List D) : c_law08_CurveRow.p f ds = callOf (cl_law08_CurveRow ) f ds := Eq.trans rfl rfl
@[simp] theorem c_law08_CurveRow_e (f : FuncId) (hs : List (Nat × O)) (ds : List D) : c_law08_CurveRow.e f hs ds = callOfE ce_law08_CurveRow f hs ds := Eq.trans rfl rfl
@[simp] theorem c_law08_CurveRow_g (g : Nat) : c_law08_CurveRow.g g = gl g := Eq.trans rfl rfl
noncomputable def L_law08_CurveRow (i n : Nat) (s : St) : Option (E × St) := atN Try.prog c_law08_CurveRow an_law08_CurveRow 116 (bodyOf Try.f3) i n s
noncomputable def H_law08_CurveRow (n i : Nat) (s : St) : Option (E × St) := atH Try.prog c_law08_CurveRow an_law08_CurveRow 116 (bodyOf Try.f3) n i s
@[simp] theorem H_law08_CurveRow_eq (n i : Nat) (s : St) : H_law08_CurveRow n i s = L_law08_CurveRow i n (headOf (an_law08_CurveRow.loops.lookup i) s) := rfl
noncomputable def R_law08_CurveRow (i : Nat) (s : St) : Option (E × St) := stepL Try.prog c_law08_CurveRow an_law08_CurveRow 116 (bodyOf Try.f3) i s
theorem lok_law08_CurveRow : okLoops (bodyOf Try.f3) = true := by kernel_rfl
theorem L_law08_CurveRow_succ (i n : Nat) (s : St) : L_law08_CurveRow i (n + 1) s = andThen (R_law08_CurveRow i s) (H_law08_CurveRow n i) := atN_succ lok_law08_CurveRow (by kernel_rfl) i n s
theorem R_law08_CurveRow_eq (i : Nat) (s : St) : R_law08_CurveRow i s = runS Try.prog c_law08_CurveRow (H_law08_CurveRow bigL) an_law08_CurveRow 116 (loopAt (bodyOf Try.f3) i) s := rfl
noncomputable def F_law08_CurveRow (ds : List D) : Option D := runF Try.prog c_law08_CurveRow an_law08_CurveRow 116 (bodyOf Try.f3) [.tmp 6] ds
theorem F_law08_CurveRow_eq (ds : List D) : F_law08_CurveRow ds = runG Try.prog c_law08_CurveRow (H_law08_CurveRow bigL) an_law08_CurveRow 116 (bodyOf Try.f3) [.tmp 6] ds := runG_eq lok_law08_CurveRow _ ds
theorem C_law08_CurveRow (ds : List D) (r : D) (h : F_law08_CurveRow ds = some r) : Contract Try.prog gl 3 ds r := contract_of mix Try.func3 rfl (by kernel_rfl) (by kernel_rfl) (by decide) (call := c_law08_CurveRow) ⟨callOf_ok cl_law08_CurveRow ⟨C_law08_small, C_curve_Check, C_law08_awake, C_curve_At, C_curve_CheckGrid, C_curve_Value, trivial⟩, callOfE_ok ce_law08_CurveRow trivial⟩ h
end Go.Proofs.Ytiklahkoaikjeaa
